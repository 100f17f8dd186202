/- NandCounts: the walk. -/
import Derived.Test.YtlgjlhgdpiipbaaZj
import Derived.Test.YtlgjlhgdpiipbaaZq
import Derived.Deep.DeepCutAuto
namespace Go.Proofs.Ytlgjlhgdpiipbaa
open Go.RowKit
/-- What the law has beside the chip: its map, the geometry's box. -/
structure Mine (W : World) (M G n : Nat) (bn pn : Int) (f : Int → Int) : Prop where
  map : MapF W M n f
  geo : Box W G 23 #[.int .i64 bn, .int .i64 pn]
theorem Mine.below {W W' : World} {M G n : Nat} {bn pn : Int} {f : Int → Int} (h : Mine W M G n bn pn f) (hb : Below W.heap.size W W') : Mine W' M G n bn pn f := ⟨h.map.at (hb.block M h.map.lt), h.geo.below hb⟩
theorem Mine.same {W W' : World} {X : Nat → Prop} {M G n : Nat} {bn pn : Int} {f : Int → Int} (h : Mine W M G n bn pn f) (hs : Same X W W') (h1 : X M) (h2 : X G) : Mine W' M G n bn pn f := ⟨h.map.at (hs.1 M h1), h.geo.same hs h2⟩
theorem Mine.set {W : World} {M G n : Nat} {bn pn : Int} {f : Int → Int} (h : Mine W M G n bn pn f) (B j : Nat) (v : Value) (h1 : M ≠ B) (h2 : G ≠ B) : Mine (W.setCell ⟨B, j, none⟩ v) M G n bn pn f :=
  ⟨h.map.at (Below.heap_setCell W ⟨B, j, none⟩ v M h1), h.geo.far ⟨B, j, none⟩ v (fun e => h2 e.symm)⟩
set_option maxRecDepth 100000 in
set_option maxHeartbeats 16000000 in
theorem counts_any (bn pn : Int) (evs : List Ev) (cs : List Cl) (ev u : Value) (w : World) (hev : EvS w (fun b => b < w.heap.size) ev evs) (hu : RdC clL 5 w u cs) (hle : evs.length ≤ 1048576) :
    Calls Try.prog 4 #[.agg #[.int .i64 bn, .int .i64 pn], ev, u] w (fun e w' => e = .returned (.bool true) ∧ Below w.heap.size w w') := by
  have hb0 := (Below.refl w.heap.size w).alloc (Nat.le_refl _) (.cells #[.int .i64 bn, .int .i64 pn] 23)
  have bx0 := Box.new w 23 #[.int .i64 bn, .int .i64 pn]
  obtain ⟨n, hn⟩ : ∃ n, cs.length = n := ⟨_, rfl⟩
  obtain ⟨ua, uc, rfl⟩ := hu.len
  rw [hn] at hu ⊢
  have hcap1 : n ≤ uc := by obtain ⟨_, _, h1, h2, _⟩ := hu; cases h1; rw [hn] at h2; exact h2
  obtain ⟨k1, hk1⟩ : ∃ kk, min n 200 = kk := ⟨_, rfl⟩
  have hmin1i := Lib.hid (show (if (200 : Int) < (n : Int) then (200 : Int) else (n : Int)) = (k1 : Int) by split <;> omega)
  have hsl1 := Lib.hid (fun W => slice37 ua n uc k1 (by omega) W)
  have hds1 := hu.take k1 (by omega)
  have hlen1 : (cs.take k1).length = k1 := by rw [List.length_take]; omega
  have hk200 : k1 ≤ 200 := by omega
  obtain ⟨ds, hds⟩ : ∃ ds, cs.take k1 = ds := ⟨_, rfl⟩
  rw [hds] at hds1 hlen1
  clear hds hu hk1 hcap1 hn
  replace hds1 := Lib.hid hds1
  obtain ⟨W0, hW0⟩ : ∃ W0, w.alloc (.cells #[.int .i64 bn, .int .i64 pn] 23) = W0 := ⟨_, rfl⟩
  rw [hW0] at hb0 bx0
  have g0 := bx0.get 0 _ rfl
  have g1 := bx0.get 1 _ rfl
  have hev0 : EvS W0 (fun b => b < W0.heap.size) ev evs := (hev.same ⟨fun b hb => hb0.block b hb, hb0.size⟩).mono (fun b hb => Nat.lt_of_lt_of_le hb hb0.size)
  have hnew := has_new bn pn [] evs (.slice none 0 0) ev w W0 hb0 (by simp) hle (intS_nil _ _) hev0
  have hgood := fun st (h : newChip bn pn [] evs = .ok st) => fresh_good h
  have hkinds := fun st (h : newChip bn pn [] evs = .ok st) => fresh_kinds h
  have hcnt := fun st (h : newChip bn pn [] evs = .ok st) => cnt_fresh h
  have hbnn := fun st (h : newChip bn pn [] evs = .ok st) => new_bn h
  have herr := fun e (h : newChip bn pn [] evs = .error e) => newChip_err h
  obtain ⟨r, hr⟩ : ∃ r, newChip bn pn [] evs = r := ⟨_, rfl⟩
  rw [hr] at hnew hgood hkinds herr hcnt hbnn
  replace hnew := Lib.hid hnew
  replace hlen1 := Lib.hid hlen1
  obtain ⟨va, vn, vc, rfl⟩ : ∃ a n c, ev = .slice a n c := by obtain ⟨a, c, h, _⟩ := hev; exact ⟨_, _, _, h⟩
  have hbg := Lib.hid hb0
  replace bx0 := Lib.hid bx0
  clear hb0 hev hev0 hr
  go_enter Try.func4, Try.ntmps4
  go_wp2_with fail
  clear g0 g1 hW0
  refine hnew.out.mono ?_
  rintro e w2 ⟨hb2, hr⟩
  rcases r with en | st
  · dsimp only at hr
    cases hr
    have hne : (en != 0) = true := by simpa using herr _ rfl
    replace hb2 := Lib.hid (hbg.out.trans (hb2.mono hbg.out.size))
    clear hnew hgood hkinds herr hbg hcnt hbnn
    go_wp2_with fail
    refine (begun_any _).mono ?_
    rintro e w3 ⟨rfl, hb3⟩
    replace hb3 := Lib.hid (hb2.out.trans (hb3.mono hb2.out.size))
    go_wp2_with fail
    refine (begun_any _).mono ?_
    rintro e w4 ⟨rfl, hb4⟩
    replace hb4 := Lib.hid (hb3.out.trans (hb4.mono hb3.out.size))
    go_wp2_with fail
    go_ret
    exact ⟨rfl, hb4.out⟩
  dsimp only at hr
  obtain ⟨c, rfl, hH⟩ := hr
  replace hH := Lib.hid (hH (fun b => b = w.heap.size) (fun b h => by rw [h]; exact bx0.out.lt))
  replace bx0 := Lib.hid (bx0.out.below hb2)
  have hcn := Lib.hid (hcnt _ rfl)
  obtain ⟨hbn, hpn, hpn4, hpn32, hbn256⟩ := hbnn _ rfl
  replace hbn := Lib.hid hbn
  have hgd := Lib.hid (hgood _ rfl)
  clear hnew hgood hkinds herr hcnt hbnn hb2 hbg
  go_wp2_with fail
  refine (begun_any _).mono ?_
  rintro e w3 ⟨rfl, hb3⟩
  have hal := (Below.refl w3.heap.size w3).alloc (Nat.le_refl _) (.map #[] 0)
  obtain ⟨X, hX⟩ : ∃ X : Nat → Prop, X = fun b => b = w.heap.size ∨ b = w3.heap.size := ⟨_, rfl⟩
  have hXG : X w.heap.size := by rw [hX]; exact .inl rfl
  have hXM : X w3.heap.size := by rw [hX]; exact .inr rfl
  have hMlo := (hH.out.below hb3).bel.size
  replace hH := Lib.hid ((hH.out.below hb3).add (Y := X) hal (fun b hb => by rw [hX] at hb; rcases hb with hb | hb; exact .inl hb; exact .inr ⟨by omega, by rw [World.size_alloc]; omega⟩))
  have hmi : Mine (w3.alloc (.map #[] 0)) w3.heap.size w.heap.size 0 bn pn (fun _ => 0) := ⟨MapF.new w3, (bx0.out.below hb3).below hal⟩
  have hGM : w.heap.size ≠ w3.heap.size := by have := (bx0.out.below hb3).lt; omega
  clear hb3 hX hal bx0
  have hmm := @run_makeMap Try.prog
  obtain ⟨M, hM⟩ : ∃ M, w3.heap.size = M := ⟨_, rfl⟩
  obtain ⟨G, hG⟩ : ∃ G, w.heap.size = G := ⟨_, rfl⟩
  rw [hM] at hmi hXM hGM hMlo
  rw [hG] at hmi hXG hGM
  replace hM := Lib.hid hM
  replace hmi := Lib.hid hmi
  replace hMlo := Lib.hid hMlo
  replace hGM := Lib.hid hGM
  replace hG := Lib.hid hG
  have hmin1' := hmin1i.out
  have hsl1' := hsl1.out
  go_wp2_with fail
  clear hmin1' hsl1' hmin1i hsl1
  replace hlen1 := hlen1.out
  rw [hM.out, hG.out]
  go_loopw [9, 10, 52] (fun x y i wr => ∃ (k : Nat) (s : Chip) (ops er : Int) (f : Int → Int), k ≤ k1 ∧ x = .int .i64 ops ∧ y = .int .i64 er ∧ i = .int .i64 k ∧ Has w wr X c s ∧ s.Good k ∧ Cnt s ops er f ∧ (0 ≤ ops ∧ ops ≤ k ∧ 0 ≤ er ∧ er ≤ k) ∧ ((s.bn : Int) = bn ∧ (s.pn : Int) = pn) ∧ Mine wr M G k bn pn f) (fun _ _ i _ => k1 - (intOf i).toNat)
  case atStart => exact ⟨0, st, 0, 0, _, by omega, rfl, rfl, rfl, hH.out, hgd.out, hcn.out, ⟨by omega, by omega, by omega, by omega⟩, ⟨hbn.out, hpn⟩, hmi.out⟩
  case round =>
    clear hH hgd hcn hmi hbn hpn
    obtain ⟨k, s, ops, er, f, hk, rfl, rfl, rfl, hH, hg, hc, ⟨ho0, ho1, he0, he1⟩, ⟨hbn, hpn⟩, hmi⟩ := hrel
    by_cases hlt : k < k1
    · have hlt' : k < ds.length := by omega
      obtain ⟨bb, o, cc, hv, _, hbb, hcell⟩ := (hds1.out.below hH.bel).at (by intro e; rw [e] at hlt'; simp at hlt')
      rw [hlen1] at hv
      cases hv
      have c0 := hcell k hlt' 0
      have c1 := hcell k hlt' 1
      have c2 := hcell k hlt' 2
      have c3 := hcell k hlt' 3
      have c4 := hcell k hlt' 4
      clear hcell
      obtain ⟨q, hq⟩ : ∃ q, ds[k] = q := ⟨_, rfl⟩
      rw [hq] at c0 c1 c2 c3 c4
      obtain ⟨qd, qb, qp, qn, qf⟩ := q
      replace c0 := c0 _ rfl
      replace c1 := c1 _ rfl
      replace c2 := c2 _ rfl
      replace c3 := c3 _ rfl
      replace c4 := c4 _ rfl
      dsimp only at c0 c1 c2 c3 c4
      replace c0 : wr.cell? ⟨bb, o + k * 5, none⟩ = _ := c0
      have hI0 : (0 : Int) ≤ (k : Int) := by omega
      have hI1 : (k : Int) < (k1 : Int) := by omega
      have bq := Box.new wr 40 #[.int .i64 qd, .int .i64 qb, .int .i64 qp, .bool qn, .int .u8 qf.toNat]
      have q0 := bq.get 0 _ rfl
      have q1 := bq.get 1 _ rfl
      have q2 := bq.get 2 _ rfl
      have q3 := bq.get 3 _ rfl
      have q4 := bq.get 4 _ rfl
      have hal := (Below.refl wr.heap.size wr).alloc (Nat.le_refl _) (.cells #[.int .i64 qd, .int .i64 qb, .int .i64 qp, .bool qn, .int .u8 qf.toNat] 40)
      have hH5 := Lib.hid (hH.add (Y := fun b => X b ∨ b = wr.heap.size) hal (fun b hb => by rcases hb with hb | hb; exact .inl hb; exact .inr ⟨by omega, by rw [World.size_alloc]; omega⟩))
      have hwsz := Lib.hid hH.bel.size
      replace bq := Lib.hid bq
      have hmB : M ≠ wr.heap.size := by have := hmi.map.lt; omega
      have hgB : G ≠ wr.heap.size := by have := hmi.geo.lt; omega
      replace hmi := Lib.hid (hmi.below hal)
      replace hmB := Lib.hid hmB
      replace hgB := Lib.hid hgB
      clear hH hal hq
      have hdo := Lib.hid (fun W X (h : Has w W X c s) q => has_does h hg.fits (by have := hg.ops.2; omega) (fun i hi => ⟨(hg.wear i hi).1, by have := (hg.wear i hi).2; omega⟩) q)
      go_upto_if 57 with fail
      clear c0 c1 c2 c3 c4
      obtain ⟨B, hB⟩ : ∃ B, wr.heap.size = B := ⟨_, rfl⟩
      rw [hB] at bq hH5 hwsz q0 q1 q2 q3 q4 hmB hgB ⊢
      obtain ⟨W5, hW5⟩ : ∃ W5, wr.alloc (.cells #[.int .i64 qd, .int .i64 qb, .int .i64 qp, .bool qn, .int .u8 qf.toNat] 40) = W5 := ⟨_, rfl⟩
      rw [hW5] at bq hH5 hmi q0 q1 q2 q3 q4 ⊢
      clear hW5 hB
      go_cut [14, 15] (fun _ _ wx => ∃ qp' : Int, Box wx B 40 #[.int .i64 qd, .int .i64 qb, .int .i64 qp', .bool false, .int .u8 qf.toNat] ∧ Has w wx (fun b => X b ∨ b = B) c s ∧ Mine wx M G k bn pn f)
      case first =>
        rcases qn with _ | _
        · go_wp2_with fail
          go_meet
          case rel => exact ⟨qp, bq.out, hH5.out, hmi.out⟩
        · have hlk := has_look hH5.out qb
          obtain ⟨⟨lw, ln, lb⟩, hl⟩ : ∃ l, (s.lookAt qb).1 = l := ⟨_, rfl⟩
          obtain ⟨le, hle2⟩ : ∃ l, (s.lookAt qb).2 = l := ⟨_, rfl⟩
          rw [hl, hle2] at hlk
          unfold lookV lookA at hlk
          dsimp only at hlk
          replace hlk := Lib.hid hlk
          clear hl hle2
          go_wp2_with fail
          refine hlk.out.mono ?_
          rintro e w6 ⟨rfl, hb6⟩
          clear hlk q0 q1 q2 q3 q4
          have hal : Below w6.heap.size w6 (w6.alloc (.cells #[.int .i64 lw, .int .i64 ln, .bool lb] 42)) := (Below.refl _ _).alloc (Nat.le_refl _) _
          have k1' := (Box.new w6 42 #[.int .i64 lw, .int .i64 ln, .bool lb]).get 1 _ rfl
          have gb4 := (bq.out.below hb6).below hal
          have hH6 := (hH5.out.below hb6).below hal
          have hmi6 := ((((hmi.out.below hb6).below hal).set B 2 (.int .i64 ln) hmB.out hgB.out).set B 3 (.bool false) hmB.out hgB.out)
          have g2 := gb4.get 2 _ rfl
          have f2 := gb4.frozen 2
          have g3 := gb4.get 3 _ rfl
          have f3 := gb4.frozen 3
          have gb5 := (gb4.set 2 (.int .i64 ln)).set 3 (.bool false)
          have hH7 := (hH6.set (b := B) (.inr rfl) hwsz.out 2 (.int .i64 ln)).set (b := B) (.inr rfl) hwsz.out 3 (.bool false)
          replace gb5 : Box _ B 40 #[.int .i64 qd, .int .i64 qb, .int .i64 ln, .bool false, .int .u8 qf.toNat] := gb5
          have hfin := Lib.hid (And.intro gb5 (And.intro hH7 hmi6))
          clear gb4 gb5 hH6 hH7 hal hb6 bq hH5 hmi6 hmi
          go_wp2_with fail
          go_meet
          case rel => exact ⟨ln, hfin.out.1, hfin.out.2.1, hfin.out.2.2⟩
      case rest =>
        clear q0 q1 q2 q3 q4 bq hH5 hmi
        obtain ⟨qp', bq, hH, hmi⟩ := hcut
        have hon := has_on hH
        obtain ⟨on, hon'⟩ : ∃ b, (!s.off) = b := ⟨_, rfl⟩
        obtain ⟨hc1, hc2, hc3⟩ := cnt_does hg hc ⟨qd, qb, qp', false, qf⟩ rfl
        have hg' := does_good hg ⟨qd, qb, qp', false, qf⟩
        have hgeo := does_geo s ⟨qd, qb, qp', false, qf⟩
        have hcall := fun W Y (h : Has w W Y c s) => hdo.out W Y h ⟨qd, qb, qp', false, qf⟩
        have hrl : (s.does ⟨qd, qb, qp', false, qf⟩).1.1.length = 288 := does_len hH _
        obtain ⟨rr, hrr⟩ : ∃ rr, s.does ⟨qd, qb, qp', false, qf⟩ = rr := ⟨_, rfl⟩
        rw [hrr] at hc1 hc2 hc3 hg' hgeo hcall hrl
        rw [hon'] at hon hc1 hc2 hc3
        obtain ⟨⟨rp, re⟩, s'⟩ := rr
        dsimp only at hc1 hc2 hc3 hg' hgeo hcall hrl
        unfold clV pgV at hcall
        dsimp only at hcall
        have hgeo' := Lib.hid (show (s'.bn : Int) = bn ∧ (s'.pn : Int) = pn from ⟨by rw [hgeo.1]; exact hbn, by rw [hgeo.2]; exact hpn⟩)
        have hbound := Lib.hid (And.intro hbn hpn)
        replace hon := Lib.hid hon
        replace hcall := Lib.hid hcall
        replace hg' := Lib.hid hg'
        replace hrl := Lib.hid hrl
        replace hc1 := Lib.hid hc1
        replace hc2 := Lib.hid hc2
        replace hc3 := Lib.hid hc3
        clear hrr hg hc hdo hon' hbn hpn hgeo
        have y0 := bq.get 0 _ rfl
        have y1 := bq.get 1 _ rfl
        have y2 := bq.get 2 _ rfl
        have y3 := bq.get 3 _ rfl
        have y4 := bq.get 4 _ rfl
        replace bq := Lib.hid bq
        replace hH := Lib.hid hH
        replace hmi := Lib.hid hmi
        go_wp2_with fail
        refine hon.out.mono ?_
        rintro e w' ⟨rfl, hw⟩
        obtain rfl := hw.symm
        go_wp2_with fail
        refine (hcall.out _ _ hH.out).mono ?_
        rintro e w8 ⟨rfl, hH8, hsm⟩
        have b8 := bq.out.same hsm (.inr rfl)
        have hm8 := hmi.out.same hsm (.inl hXM) (.inl hXG)
        have bz := Box.new w8 48 (cellsB (rep 288 0))
        obtain ⟨hst9, by9, hg9⟩ := bz.storePg (l := rp) (by rw [cellsB_size, rep_len]) hrl.out
        have hal9 := ((Below.refl w8.heap.size w8).alloc (Nat.le_refl _) (.cells (cellsB (rep 288 0)) 48)).grown hg9 (by rw [World.size_alloc]; omega) (fun b e => by cases e; exact Nat.le_refl _)
        obtain ⟨w9, hw9⟩ : ∃ W2, (w8.alloc (.cells (cellsB (rep 288 0)) 48)).setRow w8.heap.size (cellsB rp) = W2 := ⟨_, rfl⟩
        rw [hw9] at hst9 hal9
        replace bq := b8.below hal9
        replace hH := hH8.below hal9
        replace hmi := Lib.hid (hm8.below hal9)
        have hon2 := has_on hH
        obtain ⟨on2, hon2'⟩ : ∃ b, (!s'.off) = b := ⟨_, rfl⟩
        rw [hon2'] at hon2
        have hof : s'.off = !on2 := by rw [← hon2', Bool.not_not]
        rw [hof] at hc1 hc2 hc3
        replace hon2 := Lib.hid hon2
        clear y0 y1 y2 y3 y4
        have y0 := bq.get 0 _ rfl
        have y1 := bq.get 1 _ rfl
        have y2 := bq.get 2 _ rfl
        replace bq := Lib.hid bq
        replace hH := Lib.hid (hH.less (Y := X) (fun b hb => .inl hb))
        have hz := zero48
        clear hcall hsm hH8 b8 hm8 bz by9 hg9 hal9 hw9 hrl hof hon2' hon
        unfold pgV at hst9
        go_upto_region 14 with (refine wpList_store_var rfl 48 _ _ rfl _ rfl _ rfl hst9 ?_)
        clear hst9 hz
        go_cut [19] (fun v wx => v = .bool (isOp re on (!on2)) ∧ wx = w9)
        case first =>
          by_cases h0 : re = 0
          · subst h0
            go_wp2_with fail
            go_meet
            case rel => exact ⟨rfl, rfl⟩
          · by_cases h25 : re = 25
            · subst h25
              go_wp2_with fail
              go_meet
              case rel => exact ⟨rfl, rfl⟩
            · by_cases h8 : re = 8
              · subst h8
                rcases on with _ | _
                · go_wp2_with fail
                  go_meet
                  case rel => exact ⟨rfl, rfl⟩
                · go_wp2_with fail
                  refine hon2.out.mono ?_
                  rintro e w' ⟨rfl, hw⟩
                  obtain rfl := hw.symm
                  go_wp2_with fail
                  go_meet
                  case rel => exact ⟨rfl, rfl⟩
              · have hfin := Lib.hid (show Value.bool false = Value.bool (isOp re on (!on2)) from by unfold isOp; simp [h0, h25, h8])
                have e0 : (re == 0) = false := by simpa using h0
                have e25 : (re == 25) = false := by simpa using h25
                have e8 : (re == 8) = false := by simpa using h8
                clear h0 h25 h8
                go_wp2_with fail
                go_meet
                case rel => exact ⟨hfin.out, rfl⟩
        case rest =>
          obtain ⟨rfl, rfl⟩ := hcut
          clear hon2
          obtain ⟨io, hio⟩ : ∃ b, isOp re on (!on2) = b := ⟨_, rfl⟩
          rw [hio] at hc1 hc2 hc3 ⊢
          clear hio
          have hgn : s'.Good ((k + 1 : Nat) : Int) := hg'.out.mono (by omega)
          replace hgn := Lib.hid hgn
          clear hg'
          by_cases hd : io = true ∧ (qd = 0 ∨ qd = 1)
          case neg =>
            have hcn := Lib.hid (hc3.out (by rcases io with _ | _; exact .inl rfl; exact .inr ⟨fun h => hd ⟨rfl, .inl h⟩, fun h => hd ⟨rfl, .inr h⟩⟩))
            clear hc1 hc2 hc3
            rcases io with _ | _
            · go_wp2_with fail
              all_goals
                go_roundw
                case rel => exact ⟨k + 1, s', ops, er, f, by omega, rfl, rfl, by go_num, hH.out, hgn.out, hcn.out, ⟨by omega, by omega, by omega, by omega⟩, hgeo'.out, ⟨hmi.out.map.mono (by omega), hmi.out.geo⟩⟩
                case measure => simp [intOf]; omega
            · have h0 : ¬ qd = 0 := fun h => hd ⟨rfl, .inl h⟩
              have h1 : ¬ qd = 1 := fun h => hd ⟨rfl, .inr h⟩
              clear hd
              go_wp2_with fail
              all_goals
                go_roundw
                case rel => exact ⟨k + 1, s', ops, er, f, by omega, rfl, rfl, by go_num, hH.out, hgn.out, hcn.out, ⟨by omega, by omega, by omega, by omega⟩, hgeo'.out, ⟨hmi.out.map.mono (by omega), hmi.out.geo⟩⟩
                case measure => simp [intOf]; omega
          case pos =>
            obtain ⟨rfl, hd⟩ := hd
            clear hc3
            rcases hd with rfl | rfl
            · obtain ⟨b0, b1, hfp, p0, p1, hcn⟩ := hc1.out rfl rfl
              have hp32 : qp' < 32 := by have := hbound.out.2; omega
              have hb256 : qb < 1000 := by have := hbound.out.1; omega
              replace hcn := Lib.hid hcn
              clear hc1 hc2 p1 b1
              have hnl : ¬ qp' < f qb := by omega
              have hlk := hmi.out.map.lookup 38 Try.underlying38 qb ⟨b0, by omega⟩
              go_wp2_with (at_mapUpdate; refine wpList_put rfl _ _ _ rfl hmi.out.map (by omega) rfl qb (qp' + 1) ⟨b0, by omega⟩ ⟨by omega, by omega⟩ rfl (by go_num) ?_; intro w10 hm10 hg10)
              go_roundw
              case rel => exact ⟨k + 1, s', ops + 1, er, upd f qb (qp' + 1), by omega, by go_num, by go_num, by go_num, hH.out.own hXM hMlo.out hg10, hgn.out, hcn.out, ⟨by omega, by omega, by omega, by omega⟩, hgeo'.out, ⟨hm10, hmi.out.geo.grown hg10 (by simpa using hGM.out)⟩⟩
              case measure => simp [intOf]; omega
            · obtain ⟨b0, b1, hcn⟩ := hc2.out rfl rfl
              have hb256 : qb < 1000 := by have := hbound.out.1; omega
              clear hc1 hc2 b1
              by_cases h0 : re = 0
              · subst h0
                rw [if_pos rfl] at hcn
                replace hcn := Lib.hid hcn
                go_wp2_with (at_mapUpdate; refine wpList_put rfl _ _ _ rfl hmi.out.map (by omega) rfl qb 0 ⟨b0, by omega⟩ ⟨by omega, by omega⟩ rfl rfl ?_; intro w10 hm10 hg10)
                go_roundw
                case rel => exact ⟨k + 1, s', ops + 1, er + 1, upd f qb 0, by omega, by go_num, by go_num, by go_num, hH.out.own hXM hMlo.out hg10, hgn.out, hcn.out, ⟨by omega, by omega, by omega, by omega⟩, hgeo'.out, ⟨hm10, hmi.out.geo.grown hg10 (by simpa using hGM.out)⟩⟩
                case measure => simp [intOf]; omega
              · rw [if_neg h0] at hcn
                replace hcn := Lib.hid hcn
                go_wp2_with fail
                go_roundw
                case rel => exact ⟨k + 1, s', ops + 1, er + 1, f, by omega, by go_num, by go_num, by go_num, hH.out, hgn.out, hcn.out, ⟨by omega, by omega, by omega, by omega⟩, hgeo'.out, ⟨hmi.out.map.mono (by omega), hmi.out.geo⟩⟩
                case measure => simp [intOf]; omega
    · have g0 := hmi.geo.get 0 _ rfl
      have hbb := hH.bnd.2.1
      have hg2 := hg.mono (M := 200) (by omega)
      have hwb := Lib.hid (fun j (hj : j ≤ s.bn) => wearTo_bnd hg2 (by omega) j hj)
      obtain ⟨so, se, _⟩ := hc
      replace so := Lib.hid so
      replace se := Lib.hid se
      replace hH := Lib.hid hH
      clear hg hg2 hpn hmi hds1
      go_wp2_with fail
      clear g0
      go_loopw [20, 136] (fun y i wr => ∃ j : Nat, j ≤ s.bn ∧ y = .int .i64 (s.wearTo j) ∧ i = .int .i64 j ∧ Has w wr X c s) (fun _ i _ => s.bn - (intOf i).toNat)
      case atStart => exact ⟨0, by omega, rfl, rfl, hH.out⟩
      case round =>
        clear hH
        obtain ⟨j, hj, rfl, rfl, hH⟩ := hrel
        by_cases hjl : j < s.bn
        · have t1 : (j : Int) < bn := by omega
          have hlk := has_look hH (j : Int)
          rw [lookAt_yes hjl] at hlk
          obtain ⟨⟨lw, ln, lb⟩, hl⟩ : ∃ l, (s.blk j).look = l := ⟨_, rfl⟩
          have hw1 := hwb.out (j + 1) (by omega)
          have hw0 := hwb.out j (by omega)
          have hw2 : s.wearTo (j + 1) = s.wearTo j + lw := by show s.wearTo j + (s.blk j).look.wear = _; rw [hl]
          rw [hw2] at hw1
          rw [hl] at hlk
          unfold lookV lookA at hlk
          dsimp only at hlk
          replace hlk := Lib.hid hlk
          replace hw2 := Lib.hid hw2
          replace hH := Lib.hid hH
          clear hl
          obtain ⟨x, hx⟩ : ∃ x, s.wearTo j = x := ⟨_, rfl⟩
          rw [hx] at hw0 hw1 hw2 ⊢
          clear hx
          have hx0 : -1 < x + lw := by omega
          have hx1 : x + lw < 60000 := by omega
          go_wp2_with fail
          refine hlk.out.mono ?_
          rintro e w6 ⟨rfl, hb6⟩
          have hal : Below w6.heap.size w6 (w6.alloc (.cells #[.int .i64 lw, .int .i64 ln, .bool lb] 42)) := (Below.refl _ _).alloc (Nat.le_refl _) _
          have k0 := (Box.new w6 42 #[.int .i64 lw, .int .i64 ln, .bool lb]).get 0 _ rfl
          replace hH := Lib.hid ((hH.out.below hb6).below hal)
          clear hal hb6
          go_wp2_with fail
          go_roundw
          case rel => exact ⟨j + 1, by omega, by rw [hw2.out], by go_num, hH.out⟩
          case measure => simp [intOf]; omega
        · have t1 : ¬ (j : Int) < bn := by omega
          obtain rfl : j = s.bn := by omega
          have hops := has_ops hH
          rw [so.out] at hops
          replace hops := Lib.hid hops
          rw [se.out]
          replace hH := Lib.hid hH
          go_wp2_with fail
          refine hops.out.mono ?_
          rintro e w' ⟨rfl, hw⟩
          obtain rfl := hw.symm
          go_wp2_with fail
          go_ret
          exact ⟨rfl, hH.out.bel⟩
end Go.Proofs.Ytlgjlhgdpiipbaa
