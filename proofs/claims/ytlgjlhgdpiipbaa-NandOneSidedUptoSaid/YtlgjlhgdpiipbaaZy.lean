/- NandOneSided: the walk. -/
import Derived.Test.YtlgjlhgdpiipbaaZj
import Derived.Test.YtlgjlhgdpiipbaaZx
import Derived.Deep.DeepCutAuto
namespace Go.Proofs.Ytlgjlhgdpiipbaa
open Go.RowKit
/-- What the law has beside the chip: its map, the geometry's box. -/
structure MineP (W : World) (M G n : Nat) (bn pn : Int) (g : Int → Option UInt8) : Prop where
  map : MapP W M n g
  geo : Box W G 23 #[.int .i64 bn, .int .i64 pn]
theorem MineP.below {W W' : World} {M G n : Nat} {bn pn : Int} {g : Int → Option UInt8} (h : MineP W M G n bn pn g) (hb : Below W.heap.size W W') : MineP W' M G n bn pn g := ⟨h.map.at (hb.block M h.map.lt), h.geo.below hb⟩
theorem MineP.same {W W' : World} {X : Nat → Prop} {M G n : Nat} {bn pn : Int} {g : Int → Option UInt8} (h : MineP W M G n bn pn g) (hs : Same X W W') (h1 : X M) (h2 : X G) : MineP W' M G n bn pn g := ⟨h.map.at (hs.1 M h1), h.geo.same hs h2⟩
theorem MineP.set {W : World} {M G n : Nat} {bn pn : Int} {g : Int → Option UInt8} (h : MineP W M G n bn pn g) (B j : Nat) (v : Value) (h1 : M ≠ B) (h2 : G ≠ B) : MineP (W.setCell ⟨B, j, none⟩ v) M G n bn pn g :=
  ⟨h.map.at (Below.heap_setCell W ⟨B, j, none⟩ v M h1), h.geo.far ⟨B, j, none⟩ v (fun e => h2 e.symm)⟩
set_option maxRecDepth 100000 in
set_option maxHeartbeats 16000000 in
theorem one_any (bn pn : Int) (evs : List Ev) (cs : List Cl) (ev u : Value) (w : World) (hev : EvS w (fun b => b < w.heap.size) ev evs) (hu : RdC clL 5 w u cs) (hle : evs.length ≤ 1048576) :
    Calls Try.prog 5 #[.agg #[.int .i64 bn, .int .i64 pn], ev, u] w (fun e w' => e = .returned (.bool true) ∧ Below w.heap.size w w') := by
  have hb0 := (Below.refl w.heap.size w).alloc (Nat.le_refl _) (.cells #[.int .i64 bn, .int .i64 pn] 23)
  have bx0 := Box.new w 23 #[.int .i64 bn, .int .i64 pn]
  obtain ⟨n, hn⟩ : ∃ n, cs.length = n := ⟨_, rfl⟩
  obtain ⟨ua, uc, rfl⟩ := hu.len
  rw [hn] at hu ⊢
  have hcap1 : n ≤ uc := by obtain ⟨_, _, h1, h2, _⟩ := hu; cases h1; rw [hn] at h2; exact h2
  obtain ⟨k1, hk1⟩ : ∃ kk, min n 200 = kk := ⟨_, rfl⟩
  have hmin1i := Lib.hid (show (if (200 : Int) < (n : Int) then (200 : Int) else (n : Int)) = (k1 : Int) by split <;> omega)
  have hsl1 := Lib.hid (fun W => slice37 ua n uc k1 (by omega) W)
  have hds1 := hu.take k1 (by omega)
  have hlen1 : (cs.take k1).length = k1 := by rw [List.length_take]; omega
  have hk200 : k1 ≤ 200 := by omega
  obtain ⟨ds, hds⟩ : ∃ ds, cs.take k1 = ds := ⟨_, rfl⟩
  rw [hds] at hds1 hlen1
  clear hds hu hk1 hcap1 hn
  replace hds1 := Lib.hid hds1
  obtain ⟨W0, hW0⟩ : ∃ W0, w.alloc (.cells #[.int .i64 bn, .int .i64 pn] 23) = W0 := ⟨_, rfl⟩
  rw [hW0] at hb0 bx0
  have g0 := bx0.get 0 _ rfl
  have g1 := bx0.get 1 _ rfl
  have hev0 : EvS W0 (fun b => b < W0.heap.size) ev evs := (hev.same ⟨fun b hb => hb0.block b hb, hb0.size⟩).mono (fun b hb => Nat.lt_of_lt_of_le hb hb0.size)
  have hnew := has_new bn pn [] evs (.slice none 0 0) ev w W0 hb0 (by simp) hle (intS_nil _ _) hev0
  have hgood := fun st (h : newChip bn pn [] evs = .ok st) => fresh_good h
  have hkinds := fun st (h : newChip bn pn [] evs = .ok st) => fresh_kinds h
  have hcnt := fun st (h : newChip bn pn [] evs = .ok st) => oneS_fresh h
  have hbnn := fun st (h : newChip bn pn [] evs = .ok st) => new_bn h
  have herr := fun e (h : newChip bn pn [] evs = .error e) => newChip_err h
  obtain ⟨r, hr⟩ : ∃ r, newChip bn pn [] evs = r := ⟨_, rfl⟩
  rw [hr] at hnew hgood hkinds herr hcnt hbnn
  replace hnew := Lib.hid hnew
  replace hlen1 := Lib.hid hlen1
  obtain ⟨va, vn, vc, rfl⟩ : ∃ a n c, ev = .slice a n c := by obtain ⟨a, c, h, _⟩ := hev; exact ⟨_, _, _, h⟩
  have hbg := Lib.hid hb0
  replace bx0 := Lib.hid bx0
  clear hb0 hev hev0 hr
  go_enter Try.func5, Try.ntmps5
  go_wp2_with fail
  clear g0 g1 hW0
  refine hnew.out.mono ?_
  rintro e w2 ⟨hb2, hr⟩
  rcases r with en | st
  · dsimp only at hr
    cases hr
    have hne : (en != 0) = true := by simpa using herr _ rfl
    replace hb2 := Lib.hid (hbg.out.trans (hb2.mono hbg.out.size))
    clear hnew hgood hkinds herr hbg hcnt hbnn
    go_wp2_with fail
    refine (begun_any _).mono ?_
    rintro e w3 ⟨rfl, hb3⟩
    replace hb3 := Lib.hid (hb2.out.trans (hb3.mono hb2.out.size))
    go_wp2_with fail
    refine (begun_any _).mono ?_
    rintro e w4 ⟨rfl, hb4⟩
    replace hb4 := Lib.hid (hb3.out.trans (hb4.mono hb3.out.size))
    go_wp2_with fail
    go_ret
    exact ⟨rfl, hb4.out⟩
  dsimp only at hr
  obtain ⟨c, rfl, hH⟩ := hr
  replace hH := Lib.hid (hH (fun b => b = w.heap.size) (fun b h => by rw [h]; exact bx0.out.lt))
  replace bx0 := Lib.hid (bx0.out.below hb2)
  have hcn := Lib.hid (hcnt _ rfl)
  obtain ⟨hbn, hpn, hpn4, hpn32, hbn256⟩ := hbnn _ rfl
  replace hbn := Lib.hid hbn
  have hgd := Lib.hid (hgood _ rfl)
  have hkd := Lib.hid (hkinds _ rfl)
  clear hnew hgood hkinds herr hcnt hbnn hb2 hbg
  go_wp2_with fail
  refine (begun_any _).mono ?_
  rintro e w3 ⟨rfl, hb3⟩
  have hal := (Below.refl w3.heap.size w3).alloc (Nat.le_refl _) (.map #[] 0)
  obtain ⟨X, hX⟩ : ∃ X : Nat → Prop, X = fun b => b = w.heap.size ∨ b = w3.heap.size := ⟨_, rfl⟩
  have hXG : X w.heap.size := by rw [hX]; exact .inl rfl
  have hXM : X w3.heap.size := by rw [hX]; exact .inr rfl
  have hMlo := (hH.out.below hb3).bel.size
  replace hH := Lib.hid ((hH.out.below hb3).add (Y := X) hal (fun b hb => by rw [hX] at hb; rcases hb with hb | hb; exact .inl hb; exact .inr ⟨by omega, by rw [World.size_alloc]; omega⟩))
  have hmi : MineP (w3.alloc (.map #[] 0)) w3.heap.size w.heap.size 0 bn pn (fun _ => none) := ⟨MapP.new w3, (bx0.out.below hb3).below hal⟩
  have hGM : w.heap.size ≠ w3.heap.size := by have := (bx0.out.below hb3).lt; omega
  clear hb3 hX hal bx0
  have hmm := @run_makeMap Try.prog
  obtain ⟨M, hM⟩ : ∃ M, w3.heap.size = M := ⟨_, rfl⟩
  obtain ⟨G, hG⟩ : ∃ G, w.heap.size = G := ⟨_, rfl⟩
  rw [hM] at hmi hXM hGM hMlo
  rw [hG] at hmi hXG hGM
  replace hM := Lib.hid hM
  replace hmi := Lib.hid hmi
  replace hMlo := Lib.hid hMlo
  replace hGM := Lib.hid hGM
  replace hG := Lib.hid hG
  have hmin1' := hmin1i.out
  have hsl1' := hsl1.out
  go_wp2_with fail
  clear hmin1' hsl1' hmin1i hsl1
  replace hlen1 := hlen1.out
  rw [hM.out, hG.out]
  clear hmm
  go_loopw [51] (fun i wr => ∃ (k : Nat) (s : Chip) (g : Int → Option UInt8), k ≤ k1 ∧ i = .int .i64 k ∧ Has w wr X c s ∧ s.Good k ∧ s.kinds ∧ OneS s g ∧ ((s.bn : Int) = bn ∧ (s.pn : Int) = pn) ∧ MineP wr M G k bn pn g) (fun i _ => k1 - (intOf i).toNat)
  case atStart => exact ⟨0, st, _, by omega, rfl, hH.out, hgd.out, hkd.out, hcn.out, ⟨hbn.out, hpn⟩, hmi.out⟩
  case round =>
    clear hH hgd hkd hcn hmi hbn hpn
    obtain ⟨k, s, g, hk, rfl, hH, hg, hks, hone, ⟨hbn, hpn⟩, hmi⟩ := hrel
    by_cases hlt : k < k1
    · have hlt' : k < ds.length := by omega
      obtain ⟨bb, o, cc, hv, _, hbb, hcell⟩ := (hds1.out.below hH.bel).at (by intro e; rw [e] at hlt'; simp at hlt')
      rw [hlen1] at hv
      cases hv
      have c0 := hcell k hlt' 0
      have c1 := hcell k hlt' 1
      have c2 := hcell k hlt' 2
      have c3 := hcell k hlt' 3
      have c4 := hcell k hlt' 4
      clear hcell
      obtain ⟨q, hq⟩ : ∃ q, ds[k] = q := ⟨_, rfl⟩
      rw [hq] at c0 c1 c2 c3 c4
      obtain ⟨qd, qb, qp, qn, qf⟩ := q
      replace c0 := c0 _ rfl
      replace c1 := c1 _ rfl
      replace c2 := c2 _ rfl
      replace c3 := c3 _ rfl
      replace c4 := c4 _ rfl
      dsimp only at c0 c1 c2 c3 c4
      replace c0 : wr.cell? ⟨bb, o + k * 5, none⟩ = _ := c0
      have hI0 : (0 : Int) ≤ (k : Int) := by omega
      have hI1 : (k : Int) < (k1 : Int) := by omega
      have bq := Box.new wr 40 #[.int .i64 qd, .int .i64 qb, .int .i64 qp, .bool qn, .int .u8 qf.toNat]
      have q0 := bq.get 0 _ rfl
      have q1 := bq.get 1 _ rfl
      have q2 := bq.get 2 _ rfl
      have q3 := bq.get 3 _ rfl
      have q4 := bq.get 4 _ rfl
      have hal := (Below.refl wr.heap.size wr).alloc (Nat.le_refl _) (.cells #[.int .i64 qd, .int .i64 qb, .int .i64 qp, .bool qn, .int .u8 qf.toNat] 40)
      have hH5 := Lib.hid (hH.add (Y := fun b => X b ∨ b = wr.heap.size) hal (fun b hb => by rcases hb with hb | hb; exact .inl hb; exact .inr ⟨by omega, by rw [World.size_alloc]; omega⟩))
      have hwsz := Lib.hid hH.bel.size
      replace bq := Lib.hid bq
      have hmB : M ≠ wr.heap.size := by have := hmi.map.lt; omega
      have hgB : G ≠ wr.heap.size := by have := hmi.geo.lt; omega
      replace hmi := Lib.hid (hmi.below hal)
      replace hmB := Lib.hid hmB
      replace hgB := Lib.hid hgB
      clear hH hal hq
      have hlk := has_look hH5.out qb
      have hpl := has_len hH5.out
      have hdo := Lib.hid (fun W X (h : Has w W X c s) q => has_does h hg.fits (by have := hg.ops.2; omega) (fun i hi => ⟨(hg.wear i hi).1, by have := (hg.wear i hi).2; omega⟩) q)
      rcases hth : s.there qb with _ | _
      · rw [lookAt_no hth] at hlk
        unfold lookV lookA zeroLook at hlk
        dsimp only at hlk
        replace hlk := Lib.hid hlk
        have hH6 := Lib.hid (hH5.out.less (Y := X) (fun b hb => .inl hb))
        clear hth bq hH5 hpl hdo
        go_wp2_with fail
        refine hlk.out.mono ?_
        rintro e w6 ⟨rfl, hb6⟩
        clear hlk c0 c1 c2 c3 c4 q0 q1 q2 q3 q4
        have hal : Below w6.heap.size w6 (w6.alloc (.cells #[.int .i64 0, .int .i64 0, .bool false] 42)) := (Below.refl _ _).alloc (Nat.le_refl _) _
        replace hmi := Lib.hid ((hmi.out.below hb6).below hal)
        replace hH6 := Lib.hid ((hH6.out.below hb6).below hal)
        clear hal hb6
        go_wp2_with fail
        go_roundw
        case rel => exact ⟨k + 1, s, g, by omega, by go_num, hH6.out, hg.mono (by omega), hks, hone, ⟨hbn, hpn⟩, ⟨hmi.out.map.mono (by omega), hmi.out.geo⟩⟩
        case measure => simp [intOf]; omega
      · obtain ⟨i, rfl, hi⟩ := Chip.there_nat hth
        rw [lookAt_yes hi] at hlk
        obtain ⟨⟨lw, ln, lb⟩, hl⟩ : ∃ l, (s.blk i).look = l := ⟨_, rfl⟩
        rw [hl] at hlk
        unfold lookV lookA at hlk
        dsimp only at hlk
        replace hlk := Lib.hid hlk
        replace hl := Lib.hid hl
        replace hth := Lib.hid hth
        replace hpl := Lib.hid hpl
        go_wp2_with fail
        refine hlk.out.mono ?_
        rintro e w6 ⟨rfl, hb6⟩
        clear hlk c0 c1 c2 c3 c4 q0 q1 q2 q3 q4
        have hal : Below w6.heap.size w6 (w6.alloc (.cells #[.int .i64 lw, .int .i64 ln, .bool lb] 42)) := (Below.refl _ _).alloc (Nat.le_refl _) _
        have bl := Box.new w6 42 #[.int .i64 lw, .int .i64 ln, .bool lb]
        replace bq := (bq.out.below hb6).below hal
        have hBL : wr.heap.size ≠ w6.heap.size := by have := hb6.size; rw [World.size_alloc] at this; omega
        have hmL : M ≠ w6.heap.size := by have := (hmi.out.below hb6).map.lt; omega
        have hgL : G ≠ w6.heap.size := by have := (hmi.out.below hb6).geo.lt; omega
        replace hmi := Lib.hid ((hmi.out.below hb6).below hal)
        have hL := (hH5.out.below hb6).bel.size
        have hH6 := Lib.hid ((hH5.out.below hb6).add (Y := fun b => X b ∨ b = wr.heap.size ∨ b = w6.heap.size) hal (fun b hb => by rcases hb with hb | hb | hb; exact .inl (.inl hb); exact .inl (.inr hb); exact .inr ⟨by omega, by rw [World.size_alloc]; omega⟩))
        have z1 := bl.get 1 _ rfl
        have q3 := bq.get 3 _ rfl
        replace bl := Lib.hid bl
        replace bq := Lib.hid bq
        replace hBL := Lib.hid hBL
        replace hmL := Lib.hid hmL
        replace hgL := Lib.hid hgL
        replace hL := Lib.hid hL
        clear hal hb6 hH5
        go_upto_if 65 with fail
        obtain ⟨B, hB⟩ : ∃ B, wr.heap.size = B := ⟨_, rfl⟩
        obtain ⟨L, hL'⟩ : ∃ L, w6.heap.size = L := ⟨_, rfl⟩
        obtain ⟨W6, hW6⟩ : ∃ W, w6.alloc (.cells #[.int .i64 lw, .int .i64 ln, .bool lb] 42) = W := ⟨_, rfl⟩
        rw [hW6] at bl bq hmi hH6 z1 q3 ⊢
        rw [hB] at bq hmB hgB hBL hH6 hwsz q3 ⊢
        rw [hL'] at bl hBL hmL hgL hH6 hL z1 ⊢
        clear hW6 hB hL'
        go_cut [] (fun wx => ∃ qp' : Int, Box wx B 40 #[.int .i64 qd, .int .i64 i, .int .i64 qp', .bool false, .int .u8 qf.toNat] ∧ Box wx L 42 #[.int .i64 lw, .int .i64 ln, .bool lb] ∧ Has w wx (fun b => X b ∨ b = B ∨ b = L) c s ∧ MineP wx M G k bn pn g)
        case first =>
          rcases qn with _ | _
          · go_wp2_with fail
            go_meet
            case rel => exact ⟨qp, bq.out, bl.out, hH6.out, hmi.out⟩
          · have g2 := bq.out.get 2 _ rfl
            have f2 := bq.out.frozen 2
            have f3 := bq.out.frozen 3
            have gb5 := (bq.out.set 2 (.int .i64 ln)).set 3 (.bool false)
            have hH7 := (hH6.out.set (b := B) (.inr (.inl rfl)) hwsz.out 2 (.int .i64 ln)).set (b := B) (.inr (.inl rfl)) hwsz.out 3 (.bool false)
            have hm7 := (hmi.out.set B 2 (.int .i64 ln) hmB.out hgB.out).set B 3 (.bool false) hmB.out hgB.out
            have hl7 := (bl.out.far ⟨B, 2, none⟩ (.int .i64 ln) hBL.out).far ⟨B, 3, none⟩ (.bool false) hBL.out
            replace gb5 : Box _ B 40 #[.int .i64 qd, .int .i64 i, .int .i64 ln, .bool false, .int .u8 qf.toNat] := gb5
            have hfin := Lib.hid (And.intro gb5 (And.intro hl7 (And.intro hH7 hm7)))
            clear gb5 hH7 hm7 hl7 bq bl hH6 hmi
            go_wp2_with fail
            go_meet
            case rel => exact ⟨ln, hfin.out.1, hfin.out.2.1, hfin.out.2.2.1, hfin.out.2.2.2⟩
        case rest =>
          clear q3 z1 bq bl hH6 hmi hmB hgB hBL hmL hgL hL hwsz
          obtain ⟨qp', bq, bl, hH, hmi⟩ := hcut
          have hcase := oneS_does hone hks (by omega) hpl.out ⟨qd, i, qp', false, qf⟩ rfl i rfl hi
          have hg' := does_good hg ⟨qd, i, qp', false, qf⟩
          have hks' := does_kinds hks ⟨qd, i, qp', false, qf⟩
          have hgeo := does_geo s ⟨qd, i, qp', false, qf⟩
          have hcall := fun W Y (h : Has w W Y c s) => hdo.out W Y h ⟨qd, i, qp', false, qf⟩
          have hrl : (s.does ⟨qd, i, qp', false, qf⟩).1.1.length = 288 := does_len hH _
          obtain ⟨rr, hrr⟩ : ∃ rr, s.does ⟨qd, i, qp', false, qf⟩ = rr := ⟨_, rfl⟩
          rw [hrr] at hcase hg' hks' hgeo hcall hrl
          obtain ⟨⟨rp, re⟩, s'⟩ := rr
          dsimp only at hcase hg' hks' hgeo hcall hrl
          rw [hl.out] at hcase
          dsimp only at hcase
          unfold clV pgV at hcall
          dsimp only at hcall
          have hi' : i < s'.bn := by rw [hgeo.1]; exact hi
          have hspn : (s.pn : Int) = pn := hpn
          have hsbn : (s.bn : Int) = bn := hbn
          have hgeo' := Lib.hid (show (s'.bn : Int) = bn ∧ (s'.pn : Int) = pn from ⟨by rw [hgeo.1]; exact hbn, by rw [hgeo.2]; exact hpn⟩)
          have hi256 : i < 256 := by omega
          have hs32 : s.pn ≤ 32 := by omega
          have hgn : s'.Good ((k + 1 : Nat) : Int) := hg'.mono (by omega)
          replace hgn := Lib.hid hgn
          replace hcall := Lib.hid hcall
          replace hks' := Lib.hid hks'
          replace hrl := Lib.hid hrl
          replace hcase := Lib.hid hcase
          replace hi' := Lib.hid hi'
          clear hrr hg hg' hks hone hdo hpl hl hgeo hbn hpn hth
          have y0 := bq.get 0 _ rfl
          have y1 := bq.get 1 _ rfl
          have y2 := bq.get 2 _ rfl
          have y3 := bq.get 3 _ rfl
          have y4 := bq.get 4 _ rfl
          replace bq := Lib.hid bq
          replace bl := Lib.hid bl
          replace hH := Lib.hid hH
          replace hmi := Lib.hid hmi
          replace hi := Lib.hid hi
          replace hspn := Lib.hid hspn
          replace hsbn := Lib.hid hsbn
          go_wp2_with fail
          refine (hcall.out _ _ hH.out).mono ?_
          rintro e w8 ⟨rfl, hH8, hsm⟩
          have b8 := bq.out.same hsm (.inr (.inl rfl))
          have l8 := bl.out.same hsm (.inr (.inr rfl))
          have hm8 := hmi.out.same hsm (.inl hXM) (.inl hXG)
          have bz := Box.new w8 48 (cellsB (rep 288 0))
          obtain ⟨hst9, by9, hg9⟩ := bz.storePg (l := rp) (by rw [cellsB_size, rep_len]) hrl.out
          have hal9 := ((Below.refl w8.heap.size w8).alloc (Nat.le_refl _) (.cells (cellsB (rep 288 0)) 48)).grown hg9 (by rw [World.size_alloc]; omega) (fun b e => by cases e; exact Nat.le_refl _)
          obtain ⟨w9, hw9⟩ : ∃ W2, (w8.alloc (.cells (cellsB (rep 288 0)) 48)).setRow w8.heap.size (cellsB rp) = W2 := ⟨_, rfl⟩
          rw [hw9] at hst9 hal9
          replace bq := b8.below hal9
          replace bl := l8.below hal9
          replace hH := Lib.hid (hH8.below hal9)
          replace hmi := Lib.hid (hm8.below hal9)
          clear y0 y1 y2 y3 y4
          replace bq := Lib.hid bq
          replace bl := Lib.hid bl
          have hz := zero48
          clear hcall hsm hH8 b8 l8 hm8 bz by9 hg9 hal9 hw9 hrl
          unfold pgV at hst9
          go_upto_block 2 with (refine wpList_store_var rfl 48 _ _ rfl _ rfl _ rfl hst9 ?_)
          clear hst9 hz
          go_cut [16] (fun _ wx => ∃ g', OneS s' g' ∧ Has w wx (fun b => X b ∨ b = B ∨ b = L) c s' ∧ Box wx B 40 #[.int .i64 qd, .int .i64 i, .int .i64 qp', .bool false, .int .u8 qf.toNat] ∧ MineP wx M G (k + 1) bn pn g')
          case first =>
            have z0 := bq.out.get 0 _ rfl
            have z1 := bq.out.get 1 _ rfl
            have z2 := bq.out.get 2 _ rfl
            have x0 := bl.out.get 0 _ rfl
            have x1 := bl.out.get 1 _ rfl
            have x2 := bl.out.get 2 _ rfl
            have hBM : B ≠ M := by
              have h1 : W6.heap[M]? ≠ W6.heap[M]? → False := fun h => h rfl
              intro e
              have hm := hmi.out.map
              subst e
              obtain ⟨D, ⟨es, cl, hx, _⟩, _⟩ := hm
              have hb : w9.heap[B]? = some (.cells _ 40 (0, 0)) := bq.out
              rw [hb] at hx
              cases hx
            replace hBM := Lib.hid hBM
            have hgl : G = G := rfl
            rcases hcase.out with ⟨h0, j, hqj, hj, hnx, hwr, hbd, hnx2, hre, hone⟩ | ⟨h1, hre, hone⟩ | ⟨hone, hp, he⟩
            · subst h0
              subst hqj
              have hj32 : (j : Int) < 32 := by omega
              rcases hre with rfl | rfl | rfl
              · go_upto_region 15 with fail
                clear z0 z1 z2 x0 x1 x2
                have hS := Lib.hid (fun W (hb : Box W B 40 #[.int .i64 0, .int .i64 i, .int .i64 (j : Int), .bool false, .int .u8 qf.toNat]) => show (fun W => W.cell? ⟨B, 1, none⟩ = some (.int .i64 i) ∧ W.cell? ⟨B, 2, none⟩ = some (.int .i64 j) ∧ W.cell? ⟨B, 4, none⟩ = some (.int .u8 qf.toNat)) W from ⟨hb.get 1 _ rfl, hb.get 2 _ rfl, hb.get 4 _ rfl⟩)
                have hpg := Lib.hid (fun W => page_any qf W)
                have hput := Lib.hid (fun W (h : MineP W M G k bn pn g) => h.map.put (by omega) (64 * i + j) ⟨by omega, by omega⟩ qf)
                unfold pgV at hpg hput
                obtain ⟨p, hp⟩ : ∃ p, rep 288 qf = p := ⟨_, rfl⟩
                rw [hp] at hpg hput
                clear hp
                have hBd := (Below.refl w9.heap.size w9).drew
                have bqd := bq.out.below hBd
                have hHd := hH.out.below hBd
                have hmd := hmi.out.below hBd
                refine wp_region_noPanic ?_
                refine wp_region_held_drew (S := fun W => W.cell? ⟨B, 1, none⟩ = some (.int .i64 i) ∧ W.cell? ⟨B, 2, none⟩ = some (.int .i64 j) ∧ W.cell? ⟨B, 4, none⟩ = some (.int .u8 qf.toNat)) (by kernel_rfl) (hS.out _ bqd) (fun hHeld => ?_)
                refine wpAnyH_take (i := 0) (v := ?_) rfl (by kernel_rfl) (by kernel_rfl) (by kernel_rfl) (fun _ _ _ h => h) (Or.inl ⟨rfl, ?_⟩) (by assumption) ?_
                rotate_left
                · intro W hSw
                  (try dsimp only at hSw)
                  go_simp
                  try with_reducible rfl
                try simp only [List.getElem_toArray, List.getElem_cons_zero, List.getElem_cons_succ, Act.put, List.setIfInBounds_toArray, List.set_cons_zero, List.set_cons_succ]
                refine wpAnyH_take (i := 1) (v := ?_) rfl (by kernel_rfl) (by kernel_rfl) (by kernel_rfl) (fun _ _ _ h => h) (Or.inl ⟨rfl, ?_⟩) (by assumption) ?_
                rotate_left
                · intro W hSw
                  (try dsimp only at hSw)
                  go_simp
                  try with_reducible rfl
                try simp only [List.getElem_toArray, List.getElem_cons_zero, List.getElem_cons_succ, Act.put, List.setIfInBounds_toArray, List.set_cons_zero, List.set_cons_succ]
                refine wpAnyH_take (i := 2) (v := ?_) rfl (by kernel_rfl) (by kernel_rfl) (by kernel_rfl) (fun _ _ _ h => h) (Or.inl ⟨rfl, ?_⟩) (by assumption) ?_
                rotate_left
                · intro W hSw
                  (try dsimp only at hSw)
                  go_simp
                  try with_reducible rfl
                try simp only [List.getElem_toArray, List.getElem_cons_zero, List.getElem_cons_succ, Act.put, List.setIfInBounds_toArray, List.set_cons_zero, List.set_cons_succ]
                refine wpAnyH_take (i := 3) (v := .int .i64 (64 * (i : Int))) rfl (by kernel_rfl) (by kernel_rfl) (by kernel_rfl) (fun _ _ _ h => h) (Or.inl ⟨rfl, ?_⟩) (by assumption) ?_
                · intro W hSw
                  exact exec_mul64 (.tmp 108) 3 rfl rfl _ rfl ⟨by omega, by omega⟩
                try simp only [List.getElem_toArray, List.getElem_cons_zero, List.getElem_cons_succ, Act.put, List.setIfInBounds_toArray, List.set_cons_zero, List.set_cons_succ]
                refine wpAnyH_take (i := 4) (v := ?_) rfl (by kernel_rfl) (by kernel_rfl) (by kernel_rfl) (fun _ _ _ h => h) (Or.inl ⟨rfl, ?_⟩) (by assumption) ?_
                rotate_left
                · intro W hSw
                  (try dsimp only at hSw)
                  go_simp
                  try with_reducible rfl
                try simp only [List.getElem_toArray, List.getElem_cons_zero, List.getElem_cons_succ, Act.put, List.setIfInBounds_toArray, List.set_cons_zero, List.set_cons_succ]
                refine wpAnyH_take (i := 5) (v := ?_) rfl (by kernel_rfl) (by kernel_rfl) (by kernel_rfl) (fun _ _ _ h => h) (Or.inl ⟨rfl, ?_⟩) (by assumption) ?_
                rotate_left
                · intro W hSw
                  (try dsimp only at hSw)
                  go_simp
                  try with_reducible rfl
                try simp only [List.getElem_toArray, List.getElem_cons_zero, List.getElem_cons_succ, Act.put, List.setIfInBounds_toArray, List.set_cons_zero, List.set_cons_succ]
                refine wpAnyH_take (i := 6) (v := .int .i64 (64 * (i : Int) + j)) rfl (by kernel_rfl) (by kernel_rfl) (by kernel_rfl) (fun _ _ _ h => h) (Or.inl ⟨rfl, ?_⟩) (by assumption) ?_
                · intro W hSw
                  exact exec_addi (.tmp 109) (.tmp 111) 3 rfl _ _ rfl rfl ⟨by omega, by omega⟩
                try simp only [List.getElem_toArray, List.getElem_cons_zero, List.getElem_cons_succ, Act.put, List.setIfInBounds_toArray, List.set_cons_zero, List.set_cons_succ]
                refine wpAnyH_take (i := 7) (v := ?_) rfl (by kernel_rfl) (by kernel_rfl) (by kernel_rfl) (fun _ _ _ h => h) (Or.inl ⟨rfl, ?_⟩) (by assumption) ?_
                rotate_left
                · intro W hSw
                  (try dsimp only at hSw)
                  go_simp
                  try with_reducible rfl
                try simp only [List.getElem_toArray, List.getElem_cons_zero, List.getElem_cons_succ, Act.put, List.setIfInBounds_toArray, List.set_cons_zero, List.set_cons_succ]
                refine wpAnyH_take (i := 8) (v := ?_) rfl (by kernel_rfl) (by kernel_rfl) (by kernel_rfl) (fun _ _ _ h => h) (Or.inl ⟨rfl, ?_⟩) (by assumption) ?_
                rotate_left
                · intro W hSw
                  (try dsimp only at hSw)
                  go_simp
                  try with_reducible rfl
                try simp only [List.getElem_toArray, List.getElem_cons_zero, List.getElem_cons_succ, Act.put, List.setIfInBounds_toArray, List.set_cons_zero, List.set_cons_succ]
                refine wpAnyH_ready (rs := [9]) (by kernel_rfl) (by simp) (AllReadyH.cons rfl (fun K hK => ?_) AllReadyH.nil)
                go_simp
                refine (hpg.out _).mono ?_
                rintro e w12 ⟨rfl, hb⟩
                have bq12 := bqd.below hb
                have hH12 := hHd.below hb
                have hm12 := hmd.below hb
                clear hb
                refine hK.out _ _ (hS.out _ bq12) (fun hHeld => ?_)
                clear hK
                try simp only [List.getElem_toArray, List.getElem_cons_zero, List.getElem_cons_succ, Act.put, List.setIfInBounds_toArray, List.set_cons_zero, List.set_cons_succ]
                obtain ⟨w13, hr13, hm13, hg13⟩ := hput.out _ hm12
                have bq13 := bq12.grown hg13 (by simpa using hBM.out)
                have hgeo13 := hm12.geo.grown hg13 (by simpa using hGM.out)
                have hH13 := hH12.own (b := M) (.inl hXM) hMlo.out hg13
                refine wpAnyH_ready (rs := [10]) (by kernel_rfl) (by simp) (AllReadyH.cons rfl (fun K hK => ?_) AllReadyH.nil)
                refine step_mapUpdate_run rfl 53 (.tmp 106) (.tmp 112) (.tmp 115) rfl _ _ _ rfl rfl rfl _ hr13 ?_
                refine hK.out _ _ (hS.out _ bq13) (fun hHeld => ?_)
                clear hK
                try simp only [List.getElem_toArray, List.getElem_cons_zero, List.getElem_cons_succ, Act.put, List.setIfInBounds_toArray, List.set_cons_zero, List.set_cons_succ]
                refine wpAnyH_done (by kernel_rfl) ?_ _
                (try dsimp only [NoPanic])
                go_wp2_with fail
                go_meet
                case rel => exact ⟨_, hone, hH13, bq13, ⟨hm13, hgeo13⟩⟩
              · go_upto_region 15 with fail
                clear z0 z1 z2 x0 x1 x2
                have hS := Lib.hid (fun W (hb : Box W B 40 #[.int .i64 0, .int .i64 i, .int .i64 (j : Int), .bool false, .int .u8 qf.toNat]) => show (fun W => W.cell? ⟨B, 1, none⟩ = some (.int .i64 i) ∧ W.cell? ⟨B, 2, none⟩ = some (.int .i64 j) ∧ W.cell? ⟨B, 4, none⟩ = some (.int .u8 qf.toNat)) W from ⟨hb.get 1 _ rfl, hb.get 2 _ rfl, hb.get 4 _ rfl⟩)
                have hpg := Lib.hid (fun W => page_any qf W)
                have hput := Lib.hid (fun W (h : MineP W M G k bn pn g) => h.map.put (by omega) (64 * i + j) ⟨by omega, by omega⟩ qf)
                unfold pgV at hpg hput
                obtain ⟨p, hp⟩ : ∃ p, rep 288 qf = p := ⟨_, rfl⟩
                rw [hp] at hpg hput
                clear hp
                have hBd := (Below.refl w9.heap.size w9).drew
                have bqd := bq.out.below hBd
                have hHd := hH.out.below hBd
                have hmd := hmi.out.below hBd
                refine wp_region_noPanic ?_
                refine wp_region_held_drew (S := fun W => W.cell? ⟨B, 1, none⟩ = some (.int .i64 i) ∧ W.cell? ⟨B, 2, none⟩ = some (.int .i64 j) ∧ W.cell? ⟨B, 4, none⟩ = some (.int .u8 qf.toNat)) (by kernel_rfl) (hS.out _ bqd) (fun hHeld => ?_)
                refine wpAnyH_take (i := 0) (v := ?_) rfl (by kernel_rfl) (by kernel_rfl) (by kernel_rfl) (fun _ _ _ h => h) (Or.inl ⟨rfl, ?_⟩) (by assumption) ?_
                rotate_left
                · intro W hSw
                  (try dsimp only at hSw)
                  go_simp
                  try with_reducible rfl
                try simp only [List.getElem_toArray, List.getElem_cons_zero, List.getElem_cons_succ, Act.put, List.setIfInBounds_toArray, List.set_cons_zero, List.set_cons_succ]
                refine wpAnyH_take (i := 1) (v := ?_) rfl (by kernel_rfl) (by kernel_rfl) (by kernel_rfl) (fun _ _ _ h => h) (Or.inl ⟨rfl, ?_⟩) (by assumption) ?_
                rotate_left
                · intro W hSw
                  (try dsimp only at hSw)
                  go_simp
                  try with_reducible rfl
                try simp only [List.getElem_toArray, List.getElem_cons_zero, List.getElem_cons_succ, Act.put, List.setIfInBounds_toArray, List.set_cons_zero, List.set_cons_succ]
                refine wpAnyH_take (i := 2) (v := ?_) rfl (by kernel_rfl) (by kernel_rfl) (by kernel_rfl) (fun _ _ _ h => h) (Or.inl ⟨rfl, ?_⟩) (by assumption) ?_
                rotate_left
                · intro W hSw
                  (try dsimp only at hSw)
                  go_simp
                  try with_reducible rfl
                try simp only [List.getElem_toArray, List.getElem_cons_zero, List.getElem_cons_succ, Act.put, List.setIfInBounds_toArray, List.set_cons_zero, List.set_cons_succ]
                refine wpAnyH_take (i := 3) (v := .int .i64 (64 * (i : Int))) rfl (by kernel_rfl) (by kernel_rfl) (by kernel_rfl) (fun _ _ _ h => h) (Or.inl ⟨rfl, ?_⟩) (by assumption) ?_
                · intro W hSw
                  exact exec_mul64 (.tmp 108) 3 rfl rfl _ rfl ⟨by omega, by omega⟩
                try simp only [List.getElem_toArray, List.getElem_cons_zero, List.getElem_cons_succ, Act.put, List.setIfInBounds_toArray, List.set_cons_zero, List.set_cons_succ]
                refine wpAnyH_take (i := 4) (v := ?_) rfl (by kernel_rfl) (by kernel_rfl) (by kernel_rfl) (fun _ _ _ h => h) (Or.inl ⟨rfl, ?_⟩) (by assumption) ?_
                rotate_left
                · intro W hSw
                  (try dsimp only at hSw)
                  go_simp
                  try with_reducible rfl
                try simp only [List.getElem_toArray, List.getElem_cons_zero, List.getElem_cons_succ, Act.put, List.setIfInBounds_toArray, List.set_cons_zero, List.set_cons_succ]
                refine wpAnyH_take (i := 5) (v := ?_) rfl (by kernel_rfl) (by kernel_rfl) (by kernel_rfl) (fun _ _ _ h => h) (Or.inl ⟨rfl, ?_⟩) (by assumption) ?_
                rotate_left
                · intro W hSw
                  (try dsimp only at hSw)
                  go_simp
                  try with_reducible rfl
                try simp only [List.getElem_toArray, List.getElem_cons_zero, List.getElem_cons_succ, Act.put, List.setIfInBounds_toArray, List.set_cons_zero, List.set_cons_succ]
                refine wpAnyH_take (i := 6) (v := .int .i64 (64 * (i : Int) + j)) rfl (by kernel_rfl) (by kernel_rfl) (by kernel_rfl) (fun _ _ _ h => h) (Or.inl ⟨rfl, ?_⟩) (by assumption) ?_
                · intro W hSw
                  exact exec_addi (.tmp 109) (.tmp 111) 3 rfl _ _ rfl rfl ⟨by omega, by omega⟩
                try simp only [List.getElem_toArray, List.getElem_cons_zero, List.getElem_cons_succ, Act.put, List.setIfInBounds_toArray, List.set_cons_zero, List.set_cons_succ]
                refine wpAnyH_take (i := 7) (v := ?_) rfl (by kernel_rfl) (by kernel_rfl) (by kernel_rfl) (fun _ _ _ h => h) (Or.inl ⟨rfl, ?_⟩) (by assumption) ?_
                rotate_left
                · intro W hSw
                  (try dsimp only at hSw)
                  go_simp
                  try with_reducible rfl
                try simp only [List.getElem_toArray, List.getElem_cons_zero, List.getElem_cons_succ, Act.put, List.setIfInBounds_toArray, List.set_cons_zero, List.set_cons_succ]
                refine wpAnyH_take (i := 8) (v := ?_) rfl (by kernel_rfl) (by kernel_rfl) (by kernel_rfl) (fun _ _ _ h => h) (Or.inl ⟨rfl, ?_⟩) (by assumption) ?_
                rotate_left
                · intro W hSw
                  (try dsimp only at hSw)
                  go_simp
                  try with_reducible rfl
                try simp only [List.getElem_toArray, List.getElem_cons_zero, List.getElem_cons_succ, Act.put, List.setIfInBounds_toArray, List.set_cons_zero, List.set_cons_succ]
                refine wpAnyH_ready (rs := [9]) (by kernel_rfl) (by simp) (AllReadyH.cons rfl (fun K hK => ?_) AllReadyH.nil)
                go_simp
                refine (hpg.out _).mono ?_
                rintro e w12 ⟨rfl, hb⟩
                have bq12 := bqd.below hb
                have hH12 := hHd.below hb
                have hm12 := hmd.below hb
                clear hb
                refine hK.out _ _ (hS.out _ bq12) (fun hHeld => ?_)
                clear hK
                try simp only [List.getElem_toArray, List.getElem_cons_zero, List.getElem_cons_succ, Act.put, List.setIfInBounds_toArray, List.set_cons_zero, List.set_cons_succ]
                obtain ⟨w13, hr13, hm13, hg13⟩ := hput.out _ hm12
                have bq13 := bq12.grown hg13 (by simpa using hBM.out)
                have hgeo13 := hm12.geo.grown hg13 (by simpa using hGM.out)
                have hH13 := hH12.own (b := M) (.inl hXM) hMlo.out hg13
                refine wpAnyH_ready (rs := [10]) (by kernel_rfl) (by simp) (AllReadyH.cons rfl (fun K hK => ?_) AllReadyH.nil)
                refine step_mapUpdate_run rfl 53 (.tmp 106) (.tmp 112) (.tmp 115) rfl _ _ _ rfl rfl rfl _ hr13 ?_
                refine hK.out _ _ (hS.out _ bq13) (fun hHeld => ?_)
                clear hK
                try simp only [List.getElem_toArray, List.getElem_cons_zero, List.getElem_cons_succ, Act.put, List.setIfInBounds_toArray, List.set_cons_zero, List.set_cons_succ]
                refine wpAnyH_done (by kernel_rfl) ?_ _
                (try dsimp only [NoPanic])
                go_wp2_with fail
                go_meet
                case rel => exact ⟨_, hone, hH13, bq13, ⟨hm13, hgeo13⟩⟩
              · obtain ⟨⟨uw, un, ub⟩, hul⟩ : ∃ l, (s'.blk i).look = l := ⟨_, rfl⟩
                rw [hul] at hwr hbd hnx2
                dsimp only at hwr hbd hnx2
                have hlk2 : (s'.lookAt (i : Int)).1 = ⟨uw, un, ub⟩ := by rw [lookAt_yes hi'.out, hul]
                have hnel : (un == ln) = false := by
                  have : ¬ un = ln := by omega
                  simpa using this
                subst hwr hbd
                have hch := Lib.hid (fun W (h : Has w W (fun b => X b ∨ b = B ∨ b = L) c s') => changed_yes h (i : Int) ln uw un ub hlk2 hnel)
                clear hlk2 hul hnel hnx2
                go_wp2_with fail
                clear z0 z1 z2 x0 x1 x2
                refine (hch.out _ hH.out).mono ?_
                rintro e w10 ⟨rfl, hb10⟩
                replace bq := Lib.hid (bq.out.below hb10)
                replace hH := Lib.hid (hH.out.below hb10)
                replace hmi := Lib.hid (hmi.out.below hb10)
                clear hb10
                go_upto_region 15 with fail
                have hS := Lib.hid (fun W (hb : Box W B 40 #[.int .i64 0, .int .i64 i, .int .i64 (j : Int), .bool false, .int .u8 qf.toNat]) => show (fun W => W.cell? ⟨B, 1, none⟩ = some (.int .i64 i) ∧ W.cell? ⟨B, 2, none⟩ = some (.int .i64 j) ∧ W.cell? ⟨B, 4, none⟩ = some (.int .u8 qf.toNat)) W from ⟨hb.get 1 _ rfl, hb.get 2 _ rfl, hb.get 4 _ rfl⟩)
                have hpg := Lib.hid (fun W => page_any qf W)
                have hput := Lib.hid (fun W (h : MineP W M G k bn pn g) => h.map.put (by omega) (64 * i + j) ⟨by omega, by omega⟩ qf)
                unfold pgV at hpg hput
                obtain ⟨p, hp⟩ : ∃ p, rep 288 qf = p := ⟨_, rfl⟩
                rw [hp] at hpg hput
                clear hp
                have hBd := (Below.refl w10.heap.size w10).drew
                have bqd := bq.out.below hBd
                have hHd := hH.out.below hBd
                have hmd := hmi.out.below hBd
                refine wp_region_noPanic ?_
                refine wp_region_held_drew (S := fun W => W.cell? ⟨B, 1, none⟩ = some (.int .i64 i) ∧ W.cell? ⟨B, 2, none⟩ = some (.int .i64 j) ∧ W.cell? ⟨B, 4, none⟩ = some (.int .u8 qf.toNat)) (by kernel_rfl) (hS.out _ bqd) (fun hHeld => ?_)
                refine wpAnyH_take (i := 0) (v := ?_) rfl (by kernel_rfl) (by kernel_rfl) (by kernel_rfl) (fun _ _ _ h => h) (Or.inl ⟨rfl, ?_⟩) (by assumption) ?_
                rotate_left
                · intro W hSw
                  (try dsimp only at hSw)
                  go_simp
                  try with_reducible rfl
                try simp only [List.getElem_toArray, List.getElem_cons_zero, List.getElem_cons_succ, Act.put, List.setIfInBounds_toArray, List.set_cons_zero, List.set_cons_succ]
                refine wpAnyH_take (i := 1) (v := ?_) rfl (by kernel_rfl) (by kernel_rfl) (by kernel_rfl) (fun _ _ _ h => h) (Or.inl ⟨rfl, ?_⟩) (by assumption) ?_
                rotate_left
                · intro W hSw
                  (try dsimp only at hSw)
                  go_simp
                  try with_reducible rfl
                try simp only [List.getElem_toArray, List.getElem_cons_zero, List.getElem_cons_succ, Act.put, List.setIfInBounds_toArray, List.set_cons_zero, List.set_cons_succ]
                refine wpAnyH_take (i := 2) (v := ?_) rfl (by kernel_rfl) (by kernel_rfl) (by kernel_rfl) (fun _ _ _ h => h) (Or.inl ⟨rfl, ?_⟩) (by assumption) ?_
                rotate_left
                · intro W hSw
                  (try dsimp only at hSw)
                  go_simp
                  try with_reducible rfl
                try simp only [List.getElem_toArray, List.getElem_cons_zero, List.getElem_cons_succ, Act.put, List.setIfInBounds_toArray, List.set_cons_zero, List.set_cons_succ]
                refine wpAnyH_take (i := 3) (v := .int .i64 (64 * (i : Int))) rfl (by kernel_rfl) (by kernel_rfl) (by kernel_rfl) (fun _ _ _ h => h) (Or.inl ⟨rfl, ?_⟩) (by assumption) ?_
                · intro W hSw
                  exact exec_mul64 (.tmp 108) 3 rfl rfl _ rfl ⟨by omega, by omega⟩
                try simp only [List.getElem_toArray, List.getElem_cons_zero, List.getElem_cons_succ, Act.put, List.setIfInBounds_toArray, List.set_cons_zero, List.set_cons_succ]
                refine wpAnyH_take (i := 4) (v := ?_) rfl (by kernel_rfl) (by kernel_rfl) (by kernel_rfl) (fun _ _ _ h => h) (Or.inl ⟨rfl, ?_⟩) (by assumption) ?_
                rotate_left
                · intro W hSw
                  (try dsimp only at hSw)
                  go_simp
                  try with_reducible rfl
                try simp only [List.getElem_toArray, List.getElem_cons_zero, List.getElem_cons_succ, Act.put, List.setIfInBounds_toArray, List.set_cons_zero, List.set_cons_succ]
                refine wpAnyH_take (i := 5) (v := ?_) rfl (by kernel_rfl) (by kernel_rfl) (by kernel_rfl) (fun _ _ _ h => h) (Or.inl ⟨rfl, ?_⟩) (by assumption) ?_
                rotate_left
                · intro W hSw
                  (try dsimp only at hSw)
                  go_simp
                  try with_reducible rfl
                try simp only [List.getElem_toArray, List.getElem_cons_zero, List.getElem_cons_succ, Act.put, List.setIfInBounds_toArray, List.set_cons_zero, List.set_cons_succ]
                refine wpAnyH_take (i := 6) (v := .int .i64 (64 * (i : Int) + j)) rfl (by kernel_rfl) (by kernel_rfl) (by kernel_rfl) (fun _ _ _ h => h) (Or.inl ⟨rfl, ?_⟩) (by assumption) ?_
                · intro W hSw
                  exact exec_addi (.tmp 109) (.tmp 111) 3 rfl _ _ rfl rfl ⟨by omega, by omega⟩
                try simp only [List.getElem_toArray, List.getElem_cons_zero, List.getElem_cons_succ, Act.put, List.setIfInBounds_toArray, List.set_cons_zero, List.set_cons_succ]
                refine wpAnyH_take (i := 7) (v := ?_) rfl (by kernel_rfl) (by kernel_rfl) (by kernel_rfl) (fun _ _ _ h => h) (Or.inl ⟨rfl, ?_⟩) (by assumption) ?_
                rotate_left
                · intro W hSw
                  (try dsimp only at hSw)
                  go_simp
                  try with_reducible rfl
                try simp only [List.getElem_toArray, List.getElem_cons_zero, List.getElem_cons_succ, Act.put, List.setIfInBounds_toArray, List.set_cons_zero, List.set_cons_succ]
                refine wpAnyH_take (i := 8) (v := ?_) rfl (by kernel_rfl) (by kernel_rfl) (by kernel_rfl) (fun _ _ _ h => h) (Or.inl ⟨rfl, ?_⟩) (by assumption) ?_
                rotate_left
                · intro W hSw
                  (try dsimp only at hSw)
                  go_simp
                  try with_reducible rfl
                try simp only [List.getElem_toArray, List.getElem_cons_zero, List.getElem_cons_succ, Act.put, List.setIfInBounds_toArray, List.set_cons_zero, List.set_cons_succ]
                refine wpAnyH_ready (rs := [9]) (by kernel_rfl) (by simp) (AllReadyH.cons rfl (fun K hK => ?_) AllReadyH.nil)
                go_simp
                refine (hpg.out _).mono ?_
                rintro e w12 ⟨rfl, hb⟩
                have bq12 := bqd.below hb
                have hH12 := hHd.below hb
                have hm12 := hmd.below hb
                clear hb
                refine hK.out _ _ (hS.out _ bq12) (fun hHeld => ?_)
                clear hK
                try simp only [List.getElem_toArray, List.getElem_cons_zero, List.getElem_cons_succ, Act.put, List.setIfInBounds_toArray, List.set_cons_zero, List.set_cons_succ]
                obtain ⟨w13, hr13, hm13, hg13⟩ := hput.out _ hm12
                have bq13 := bq12.grown hg13 (by simpa using hBM.out)
                have hgeo13 := hm12.geo.grown hg13 (by simpa using hGM.out)
                have hH13 := hH12.own (b := M) (.inl hXM) hMlo.out hg13
                refine wpAnyH_ready (rs := [10]) (by kernel_rfl) (by simp) (AllReadyH.cons rfl (fun K hK => ?_) AllReadyH.nil)
                refine step_mapUpdate_run rfl 53 (.tmp 106) (.tmp 112) (.tmp 115) rfl _ _ _ rfl rfl rfl _ hr13 ?_
                refine hK.out _ _ (hS.out _ bq13) (fun hHeld => ?_)
                clear hK
                try simp only [List.getElem_toArray, List.getElem_cons_zero, List.getElem_cons_succ, Act.put, List.setIfInBounds_toArray, List.set_cons_zero, List.set_cons_succ]
                refine wpAnyH_done (by kernel_rfl) ?_ _
                (try dsimp only [NoPanic])
                go_wp2_with fail
                go_meet
                case rel => exact ⟨_, hone, hH13, bq13, ⟨hm13, hgeo13⟩⟩
            · subst h1
              subst hre
              have g1 := hmi.out.geo.get 1 _ rfl
              go_wp2_with fail
              clear z0 z1 z2 x0 x1 x2 g1
              go_loopw [126] (fun x wr => ∃ y : Nat, y ≤ s.pn ∧ x = .int .i64 y ∧ Has w wr (fun b => X b ∨ b = B ∨ b = L) c s' ∧ Box wr B 40 #[.int .i64 1, .int .i64 i, .int .i64 qp', .bool false, .int .u8 qf.toNat] ∧ MineP wr M G k bn pn (cutG g (64 * i) y)) (fun x _ => s.pn - (intOf x).toNat)
              case atStart => exact ⟨0, by omega, rfl, hH.out, bq.out, by rw [cutG_zero]; exact hmi.out⟩
              case round =>
                clear hH bq hmi
                obtain ⟨y, hy, rfl, hH, bq, hmi⟩ := hrel
                by_cases hyl : y < s.pn
                · have t1 : (y : Int) < pn := by have := hspn.out; omega
                  have z1 := bq.get 1 _ rfl
                  have hy32 : (y : Int) < 32 := by omega
                  replace bq := Lib.hid bq
                  replace hH := Lib.hid hH
                  replace hmi := Lib.hid hmi
                  go_wp2_with (at_delete; refine hmi.out.map.del rfl (.tmp 129) (.tmp 134) rfl rfl (64 * i + y) ⟨by omega, by omega⟩ rfl ?_; intro w10 hm10 hg10)
                  go_roundw
                  case rel => exact ⟨y + 1, by omega, by go_num, hH.out.own (b := M) (.inl hXM) hMlo.out hg10, bq.out.grown hg10 (by simpa using hBM.out), ⟨by rw [cutG_succ] at hm10; exact hm10, hmi.out.geo.grown hg10 (by simpa using hGM.out)⟩⟩
                  case measure => simp [intOf]; omega
                · have t1 : ¬ (y : Int) < pn := by have := hspn.out; omega
                  obtain rfl : y = s.pn := by omega
                  replace bq := Lib.hid bq
                  replace hH := Lib.hid hH
                  replace hmi := Lib.hid hmi
                  go_wp2_with fail
                  go_meet
                  case rel => exact ⟨_, hone, hH.out, bq.out, ⟨hmi.out.map.mono (by omega), hmi.out.geo⟩⟩
            · replace hone := Lib.hid hone
              by_cases h0 : qd = 0
              · obtain ⟨hre, hlo⟩ := hp h0
                subst h0
                clear hp he
                rcases hre with rfl | rfl | rfl | rfl
                · by_cases hle2 : ln ≤ qp'
                  · have hlk2 : (s'.lookAt (i : Int)).1 = ⟨lw, ln, lb⟩ := by rw [lookAt_yes hi'.out, hlo]
                    have hch := Lib.hid (fun W (h : Has w W (fun b => X b ∨ b = B ∨ b = L) c s') => changed_no h (i : Int) lw ln lb hlk2)
                    clear hlk2 hlo
                    go_wp2_with fail
                    clear z0 z1 z2 x0 x1 x2
                    refine (hch.out _ hH.out).mono ?_
                    rintro e w10 ⟨rfl, hb10⟩
                    replace bq := Lib.hid (bq.out.below hb10)
                    replace hH := Lib.hid (hH.out.below hb10)
                    replace hmi := Lib.hid (hmi.out.below hb10)
                    clear hb10
                    have z0 := bq.out.get 0 _ rfl
                    go_wp2_with fail
                    go_meet
                    case rel => exact ⟨g, hone.out, hH.out, bq.out, ⟨hmi.out.map.mono (by omega), hmi.out.geo⟩⟩
                  · clear hlo
                    go_wp2_with fail
                    go_meet
                    case rel => exact ⟨g, hone.out, hH.out, bq.out, ⟨hmi.out.map.mono (by omega), hmi.out.geo⟩⟩
                · clear hlo
                  go_wp2_with fail
                  go_meet
                  case rel => exact ⟨g, hone.out, hH.out, bq.out, ⟨hmi.out.map.mono (by omega), hmi.out.geo⟩⟩
                · clear hlo
                  go_wp2_with fail
                  go_meet
                  case rel => exact ⟨g, hone.out, hH.out, bq.out, ⟨hmi.out.map.mono (by omega), hmi.out.geo⟩⟩
                · clear hlo
                  go_wp2_with fail
                  go_meet
                  case rel => exact ⟨g, hone.out, hH.out, bq.out, ⟨hmi.out.map.mono (by omega), hmi.out.geo⟩⟩
              · by_cases h1 : qd = 1
                · have hne := he h1
                  have e0 : (re == 0) = false := by simpa using hne
                  subst h1
                  clear hp he h0 hne
                  go_wp2_with fail
                  go_meet
                  case rel => exact ⟨g, hone.out, hH.out, bq.out, ⟨hmi.out.map.mono (by omega), hmi.out.geo⟩⟩
                · clear hp he
                  go_wp2_with fail
                  go_meet
                  case rel => exact ⟨g, hone.out, hH.out, bq.out, ⟨hmi.out.map.mono (by omega), hmi.out.geo⟩⟩
          case rest =>
            obtain ⟨g', hone, hH, bq, hmi⟩ := hcut
            have hH2 := Lib.hid (hH.less (Y := X) (fun b hb => .inl hb))
            have hpg := has_pages22 hH (i : Int)
            have hlen := has_len hH i hi'.out
            have hth' : s'.there (i : Int) = true := Chip.there_yes (by omega) (by have := hi'.out; omega)
            rw [pagesOf_yes hth'] at hpg
            have hone2 := hone i hi'.out
            obtain ⟨np, hnp⟩ : ∃ n, s'.pn = n := ⟨_, rfl⟩
            rw [hnp] at hpg hlen hone2
            have hnp32 : np ≤ 32 := by have := hgeo'.out.2; omega
            obtain ⟨fp, hfp⟩ : ∃ f, (s'.blk i).pages = f := ⟨_, rfl⟩
            rw [hfp] at hpg hlen hone2
            have hpl : ((List.range np).map fp).length = np := by simp
            have h288 : ∀ p ∈ (List.range np).map fp, p.length = 288 := fun p hp => by
              obtain ⟨x, hx, rfl⟩ := List.mem_map.1 hp
              exact hlen x (List.mem_range.1 hx)
            have hpj : ∀ (x : Nat) (h : x < ((List.range np).map fp).length), ((List.range np).map fp)[x] = fp x := fun x h => by simp
            obtain ⟨ps, hps⟩ : ∃ ps, (List.range np).map fp = ps := ⟨_, rfl⟩
            rw [hps] at hpg hpl h288 hpj
            unfold SeqPg at hpg
            rw [hpl] at hpg
            have z1 := bq.get 1 _ rfl
            replace hpg := Lib.hid hpg
            replace hone := Lib.hid hone
            replace hone2 := Lib.hid hone2
            replace hlen := Lib.hid hlen
            replace h288 := Lib.hid h288
            replace hpj := Lib.hid hpj
            replace hpl := Lib.hid hpl
            replace bq := Lib.hid bq
            replace hmi := Lib.hid hmi
            clear hH hth' hnp hfp hps hcase bl
            go_wp2_with fail
            clear z1
            refine hpg.out.mono ?_
            rintro e w10 ⟨Bl, pa, pc, rfl, hBl, hbx, hrd, hla, hb10⟩
            rw [← hpl.out] at hbx hrd
            have h21 := has_pages21 hH2.out hb10 (by rw [hpl.out]; exact hnp32) hbx hrd hla
            unfold HasPgs at h21
            rw [hpl.out] at h21
            replace h21 := Lib.hid h21
            replace bq := Lib.hid (bq.out.below hb10)
            replace hmi := Lib.hid (hmi.out.below hb10)
            clear hpg hbx hrd hla hBl hb10 hH2
            go_wp2_with fail
            refine h21.out.mono ?_
            rintro e w11 ⟨ao, cp, bo, cq, rfl, hH, hRn, hRp, hb11⟩
            replace hH := Lib.hid (hH.less (Y := X) (fun b hb => .inl hb))
            replace bq := Lib.hid (bq.out.below hb11)
            replace hmi := Lib.hid (hmi.out.below hb11)
            replace hRn := Lib.hid hRn
            replace hRp := Lib.hid hRp
            clear h21 hb11
            go_wp2_with fail
            go_loopw [146] (fun x wr => ∃ j : Nat, j ≤ np ∧ x = .int .i64 j ∧ Below w11.heap.size w11 wr) (fun x _ => np - (intOf x).toNat)
            case atStart => exact ⟨0, by omega, rfl, Below.refl _ _⟩
            case round =>
              obtain ⟨j, hj, rfl, hbr⟩ := hrel
              by_cases hlj : j < np
              · have hlp : j < ps.length := by rw [hpl.out]; exact hlj
                obtain ⟨bo', oo, co, hvo, _, _, _, _⟩ := hRp.out.at (by intro e; rw [e] at hlp; simp at hlp)
                rw [hpl.out] at hvo
                cases hvo
                have hnl : j < (List.range np).length := by rw [List.length_range]; exact hlj
                obtain ⟨bn', on', cn', hvn, _, _, hbn', hcn⟩ := hRn.out.at (by intro e; rw [e] at hnl; simp at hnl)
                rw [List.length_range] at hvn
                cases hvn
                have hcn : wr.cell? ⟨bn', on' + j, none⟩ = some (.int .i64 j) := by
                  have := hcn j hnl 0 (.int .i64 j) (by rw [List.getElem_range]; rfl)
                  rw [Nat.mul_one, Nat.add_zero] at this
                  exact (hbr.cell (p := ⟨bn', on' + j, none⟩) hbn').trans this
                have hI2 : (0 : Int) ≤ (j : Int) := by omega
                have hI3 : (j : Int) < (np : Int) := by omega
                have hj32 : (j : Int) < 32 := by omega
                have hon := hone2.out j hlj
                have hlk := (hmi.out.below hbr).map.look (64 * i + j) ⟨by omega, by omega⟩
                have hfl : (fillP (g' (64 * i + j))).length = 288 := by unfold fillP; split <;> exact rep_len _ _
                have z1 := (bq.out.below hbr).get 1 _ rfl
                have hld := Lib.hid (fun W (hb : Below w11.heap.size w11 W) => show (loadVar 48 ⟨bo', oo + j * 288, none⟩).run Try.prog W = .ok (pgV (fp j)) W from by have := (hRp.out.below hb).load h288.out j hlp; rw [hpj.out j hlp] at this; exact this)
                have hl288 := hlen.out j hlj
                obtain ⟨pj, hpje⟩ : ∃ p, fp j = p := ⟨_, rfl⟩
                rw [hpje] at hon hld hl288
                obtain ⟨og, hog⟩ : ∃ o, g' (64 * i + j) = o := ⟨_, rfl⟩
                rw [hog] at hon hlk hfl
                obtain ⟨pf, hpf⟩ : ∃ p, fillP og = p := ⟨_, rfl⟩
                rw [hpf] at hlk hfl
                obtain ⟨is, his⟩ : ∃ b, og.isSome = b := ⟨_, rfl⟩
                rw [his] at hlk
                unfold pgV at hlk hld
                have bz := Box.new wr 48 (cellsB (rep 288 0))
                obtain ⟨hst, by4, hg4⟩ := bz.storePg (l := pf) (by rw [cellsB_size, rep_len]) hfl
                have hal4 := ((Below.refl wr.heap.size wr).alloc (Nat.le_refl _) (.cells (cellsB (rep 288 0)) 48)).grown hg4 (by rw [World.size_alloc]; omega) (fun b e => by cases e; exact Nat.le_refl _)
                obtain ⟨w12, hw12⟩ : ∃ W2, (wr.alloc (.cells (cellsB (rep 288 0)) 48)).setRow wr.heap.size (cellsB pf) = W2 := ⟨_, rfl⟩
                rw [hw12] at hst hal4 by4
                have hB12 := Lib.hid (hbr.trans (hal4.mono hbr.size))
                unfold pgV at hst
                have hz := zero48
                replace by4 := Lib.hid by4
                replace hfl := Lib.hid hfl
                replace hl288 := Lib.hid hl288
                replace hon := Lib.hid hon
                replace hpf := Lib.hid hpf
                replace hog := Lib.hid hog
                replace his := Lib.hid his
                clear bz hg4 hal4 hpje hw12
                go_upto_region 27 with (refine wpList_store_var rfl 48 _ _ rfl _ rfl _ rfl hst ?_)
                clear hst hz hlk hcn z1
                obtain ⟨P, hP⟩ : ∃ P, wr.heap.size = P := ⟨_, rfl⟩
                rw [hP] at by4 ⊢
                clear hP
                have hB20 := hB12.out.trans ((Below.refl _ _).drew.mono hB12.out.size)
                rcases og with _ | fl
                · obtain rfl : false = is := his.out
                  have hpe : pj = rep 288 255 := hon.out
                  have qn : ∀ W, (binOp .neq 48 (.agg (cellsB pj)) (.agg (cellsB pj))).run Try.prog W = .ok (.bool false) W := fun W => by have := pg_neq pj pj hl288.out hl288.out W; unfold pgV at this; rw [this]; simp
                  have hpg := Lib.hid (fun W => page_any 255 W)
                  unfold pgV at hpg
                  rw [← hpe] at hpg
                  have hS := Lib.hid (fun W (hb : Below w11.heap.size w11 W) => show (fun W => (loadVar 48 ⟨bo', oo + j * 288, none⟩).run Try.prog W = .ok (.agg (cellsB pj)) W) W from hld.out W hb)
                  clear hpe
                  refine wp_region_noPanic ?_
                  refine wp_region_held_drew (S := fun W => (loadVar 48 ⟨bo', oo + j * 288, none⟩).run Try.prog W = .ok (.agg (cellsB pj)) W) (by kernel_rfl) (hS.out _ hB20) (fun hHeld => ?_)
                  refine wpAnyH_take (i := 0) (v := ?_) rfl (by kernel_rfl) (by kernel_rfl) (by kernel_rfl) (fun _ _ _ h => h) (Or.inl ⟨rfl, ?_⟩) (by assumption) ?_
                  rotate_left
                  · intro W hSw
                    (try dsimp only at hSw)
                    go_simp
                    try with_reducible rfl
                  try simp only [List.getElem_toArray, List.getElem_cons_zero, List.getElem_cons_succ, Act.put, List.setIfInBounds_toArray, List.set_cons_zero, List.set_cons_succ]
                  refine wpAnyH_take (i := 1) (v := ?_) rfl (by kernel_rfl) (by kernel_rfl) (by kernel_rfl) (fun _ _ _ h => h) (Or.inl ⟨rfl, ?_⟩) (by assumption) ?_
                  rotate_left
                  · intro W hSw
                    (try dsimp only at hSw)
                    go_simp
                    try with_reducible rfl
                  try simp only [List.getElem_toArray, List.getElem_cons_zero, List.getElem_cons_succ, Act.put, List.setIfInBounds_toArray, List.set_cons_zero, List.set_cons_succ]
                  refine wpAnyH_take (i := 2) (v := ?_) rfl (by kernel_rfl) (by kernel_rfl) (by kernel_rfl) (fun _ _ _ h => h) (Or.inl ⟨rfl, ?_⟩) (by assumption) ?_
                  rotate_left
                  · intro W hSw
                    (try dsimp only at hSw)
                    go_simp
                    try with_reducible rfl
                  try simp only [List.getElem_toArray, List.getElem_cons_zero, List.getElem_cons_succ, Act.put, List.setIfInBounds_toArray, List.set_cons_zero, List.set_cons_succ]
                  refine wpAnyH_take (i := 3) (v := ?_) rfl (by kernel_rfl) (by kernel_rfl) (by kernel_rfl) (fun _ _ _ h => h) (Or.inl ⟨rfl, ?_⟩) (by assumption) ?_
                  rotate_left
                  · intro W hSw
                    (try dsimp only at hSw)
                    go_simp
                    try with_reducible rfl
                  try simp only [List.getElem_toArray, List.getElem_cons_zero, List.getElem_cons_succ, Act.put, List.setIfInBounds_toArray, List.set_cons_zero, List.set_cons_succ]
                  refine wpAnyH_take (i := 4) (v := ?_) rfl (by kernel_rfl) (by kernel_rfl) (by kernel_rfl) (fun _ _ _ h => h) (Or.inl ⟨rfl, ?_⟩) (by assumption) ?_
                  rotate_left
                  · intro W hSw
                    (try dsimp only at hSw)
                    go_simp
                    try with_reducible rfl
                  try simp only [List.getElem_toArray, List.getElem_cons_zero, List.getElem_cons_succ, Act.put, List.setIfInBounds_toArray, List.set_cons_zero, List.set_cons_succ]
                  refine wpAnyH_take (i := 5) (v := ?_) rfl (by kernel_rfl) (by kernel_rfl) (by kernel_rfl) (fun _ _ _ h => h) (Or.inl ⟨rfl, ?_⟩) (by assumption) ?_
                  rotate_left
                  · intro W hSw
                    (try dsimp only at hSw)
                    go_simp
                    try with_reducible rfl
                  try simp only [List.getElem_toArray, List.getElem_cons_zero, List.getElem_cons_succ, Act.put, List.setIfInBounds_toArray, List.set_cons_zero, List.set_cons_succ]
                  refine wpAnyH_take (i := 6) (v := .agg (cellsB pj)) rfl (by kernel_rfl) (by kernel_rfl) (by kernel_rfl) (fun _ _ _ h => h) (Or.inl ⟨rfl, ?_⟩) (by assumption) ?_
                  · intro W hSw
                    exact exec_load 48 (.tmp 166) rfl _ rfl _ hSw
                  try simp only [List.getElem_toArray, List.getElem_cons_zero, List.getElem_cons_succ, Act.put, List.setIfInBounds_toArray, List.set_cons_zero, List.set_cons_succ]
                  refine wpAnyH_ready (rs := [7]) (by kernel_rfl) (by simp) (AllReadyH.cons rfl (fun K hK => ?_) AllReadyH.nil)
                  go_simp
                  refine (hpg.out _).mono ?_
                  rintro e w21 ⟨rfl, hb⟩
                  have hB21 := hB20.trans (hb.mono hB20.size)
                  clear hb
                  refine hK.out _ _ (hS.out _ hB21) (fun hHeld => ?_)
                  clear hK
                  try simp only [List.getElem_toArray, List.getElem_cons_zero, List.getElem_cons_succ, Act.put, List.setIfInBounds_toArray, List.set_cons_zero, List.set_cons_succ]
                  refine wpAnyH_take (i := 8) (v := .bool false) rfl (by kernel_rfl) (by kernel_rfl) (by kernel_rfl) (fun _ _ _ h => h) (Or.inl ⟨rfl, ?_⟩) (by assumption) ?_
                  · intro W hSw
                    exact exec_pgn (.tmp 167) (.tmp 168) 48 rfl _ _ rfl rfl _ (qn W)
                  try simp only [List.getElem_toArray, List.getElem_cons_zero, List.getElem_cons_succ, Act.put, List.setIfInBounds_toArray, List.set_cons_zero, List.set_cons_succ]
                  refine wpAnyH_take (i := 9) (v := ?_) rfl (by kernel_rfl) (by kernel_rfl) (by kernel_rfl) (fun _ _ _ h => h) (Or.inl ⟨rfl, ?_⟩) (by assumption) ?_
                  rotate_left
                  · intro W hSw
                    (try dsimp only at hSw)
                    go_simp
                    try with_reducible rfl
                  try simp only [List.getElem_toArray, List.getElem_cons_zero, List.getElem_cons_succ, Act.put, List.setIfInBounds_toArray, List.set_cons_zero, List.set_cons_succ]
                  refine wpAnyH_take (i := 10) (v := ?_) rfl (by kernel_rfl) (by kernel_rfl) (by kernel_rfl) (fun _ _ _ h => h) (Or.inl ⟨rfl, ?_⟩) (by assumption) ?_
                  rotate_left
                  · intro W hSw
                    (try dsimp only at hSw)
                    go_simp
                    try with_reducible rfl
                  try simp only [List.getElem_toArray, List.getElem_cons_zero, List.getElem_cons_succ, Act.put, List.setIfInBounds_toArray, List.set_cons_zero, List.set_cons_succ]
                  refine wpAnyH_take (i := 11) (v := ?_) rfl (by kernel_rfl) (by kernel_rfl) (by kernel_rfl) (fun _ _ _ h => h) (Or.inl ⟨rfl, ?_⟩) (by assumption) ?_
                  rotate_left
                  · intro W hSw
                    (try dsimp only at hSw)
                    go_simp
                    try with_reducible rfl
                  try simp only [List.getElem_toArray, List.getElem_cons_zero, List.getElem_cons_succ, Act.put, List.setIfInBounds_toArray, List.set_cons_zero, List.set_cons_succ]
                  refine wpAnyH_take (i := 12) (v := ?_) rfl (by kernel_rfl) (by kernel_rfl) (by kernel_rfl) (fun _ _ _ h => h) (Or.inl ⟨rfl, ?_⟩) (by assumption) ?_
                  rotate_left
                  · intro W hSw
                    (try dsimp only at hSw)
                    go_simp
                    try with_reducible rfl
                  try simp only [List.getElem_toArray, List.getElem_cons_zero, List.getElem_cons_succ, Act.put, List.setIfInBounds_toArray, List.set_cons_zero, List.set_cons_succ]
                  refine wpAnyH_take (i := 13) (v := undef) rfl (by kernel_rfl) (by kernel_rfl) (by kernel_rfl) (fun _ _ _ h => h) (Or.inr ⟨rfl, rfl⟩) (by assumption) ?_
                  try simp only [List.getElem_toArray, List.getElem_cons_zero, List.getElem_cons_succ, Act.put, List.setIfInBounds_toArray, List.set_cons_zero, List.set_cons_succ]
                  refine wpAnyH_take (i := 14) (v := undef) rfl (by kernel_rfl) (by kernel_rfl) (by kernel_rfl) (fun _ _ _ h => h) (Or.inr ⟨rfl, rfl⟩) (by assumption) ?_
                  try simp only [List.getElem_toArray, List.getElem_cons_zero, List.getElem_cons_succ, Act.put, List.setIfInBounds_toArray, List.set_cons_zero, List.set_cons_succ]
                  refine wpAnyH_take (i := 15) (v := undef) rfl (by kernel_rfl) (by kernel_rfl) (by kernel_rfl) (fun _ _ _ h => h) (Or.inr ⟨rfl, rfl⟩) (by assumption) ?_
                  try simp only [List.getElem_toArray, List.getElem_cons_zero, List.getElem_cons_succ, Act.put, List.setIfInBounds_toArray, List.set_cons_zero, List.set_cons_succ]
                  refine wpAnyH_take (i := 16) (v := undef) rfl (by kernel_rfl) (by kernel_rfl) (by kernel_rfl) (fun _ _ _ h => h) (Or.inr ⟨rfl, rfl⟩) (by assumption) ?_
                  try simp only [List.getElem_toArray, List.getElem_cons_zero, List.getElem_cons_succ, Act.put, List.setIfInBounds_toArray, List.set_cons_zero, List.set_cons_succ]
                  refine wpAnyH_take (i := 17) (v := undef) rfl (by kernel_rfl) (by kernel_rfl) (by kernel_rfl) (fun _ _ _ h => h) (Or.inr ⟨rfl, rfl⟩) (by assumption) ?_
                  try simp only [List.getElem_toArray, List.getElem_cons_zero, List.getElem_cons_succ, Act.put, List.setIfInBounds_toArray, List.set_cons_zero, List.set_cons_succ]
                  refine wpAnyH_take (i := 18) (v := undef) rfl (by kernel_rfl) (by kernel_rfl) (by kernel_rfl) (fun _ _ _ h => h) (Or.inr ⟨rfl, rfl⟩) (by assumption) ?_
                  try simp only [List.getElem_toArray, List.getElem_cons_zero, List.getElem_cons_succ, Act.put, List.setIfInBounds_toArray, List.set_cons_zero, List.set_cons_succ]
                  refine wpAnyH_take (i := 19) (v := undef) rfl (by kernel_rfl) (by kernel_rfl) (by kernel_rfl) (fun _ _ _ h => h) (Or.inr ⟨rfl, rfl⟩) (by assumption) ?_
                  try simp only [List.getElem_toArray, List.getElem_cons_zero, List.getElem_cons_succ, Act.put, List.setIfInBounds_toArray, List.set_cons_zero, List.set_cons_succ]
                  refine wpAnyH_take (i := 20) (v := ?_) rfl (by kernel_rfl) (by kernel_rfl) (by kernel_rfl) (fun _ _ _ h => h) (Or.inl ⟨rfl, ?_⟩) (by assumption) ?_
                  rotate_left
                  · intro W hSw
                    (try dsimp only at hSw)
                    go_simp
                    try with_reducible rfl
                  try simp only [List.getElem_toArray, List.getElem_cons_zero, List.getElem_cons_succ, Act.put, List.setIfInBounds_toArray, List.set_cons_zero, List.set_cons_succ]
                  refine wpAnyH_take (i := 21) (v := ?_) rfl (by kernel_rfl) (by kernel_rfl) (by kernel_rfl) (fun _ _ _ h => h) (Or.inl ⟨rfl, ?_⟩) (by assumption) ?_
                  rotate_left
                  · intro W hSw
                    (try dsimp only at hSw)
                    go_simp
                    try with_reducible rfl
                  try simp only [List.getElem_toArray, List.getElem_cons_zero, List.getElem_cons_succ, Act.put, List.setIfInBounds_toArray, List.set_cons_zero, List.set_cons_succ]
                  refine wpAnyH_done (by kernel_rfl) ?_ _
                  (try dsimp only [NoPanic])
                  go_wp2_with fail
                  go_roundw
                  case rel => exact ⟨j + 1, by omega, by go_num, hB21⟩
                  case measure => simp [intOf]; omega
                · obtain rfl : true = is := his.out
                  have hpe : rep 288 fl = pf := hpf.out
                  have hcv : Cov pj (rep 288 fl) := hon.out
                  rw [hpe] at hcv
                  have hco := Lib.hid (fun W => covers_any pj pf W hl288.out hfl.out hcv)
                  have hS := Lib.hid (fun W (hb : Below w12.heap.size w12 W) => show (fun W => (loadVar 48 ⟨bo', oo + j * 288, none⟩).run Try.prog W = .ok (.agg (cellsB pj)) W ∧ (loadVar 48 ⟨P, 0, none⟩).run Try.prog W = .ok (.agg (cellsB pf)) W) W from ⟨hld.out W (hB12.out.trans (hb.mono hB12.out.size)), (by4.out.below hb).loadPg hfl.out⟩)
                  have hB20 := (Below.refl w12.heap.size w12).drew
                  clear hpe hcv
                  refine wp_region_noPanic ?_
                  refine wp_region_held_drew (S := fun W => (loadVar 48 ⟨bo', oo + j * 288, none⟩).run Try.prog W = .ok (.agg (cellsB pj)) W ∧ (loadVar 48 ⟨P, 0, none⟩).run Try.prog W = .ok (.agg (cellsB pf)) W) (by kernel_rfl) (hS.out _ hB20) (fun hHeld => ?_)
                  refine wpAnyH_take (i := 0) (v := ?_) rfl (by kernel_rfl) (by kernel_rfl) (by kernel_rfl) (fun _ _ _ h => h) (Or.inl ⟨rfl, ?_⟩) (by assumption) ?_
                  rotate_left
                  · intro W hSw
                    (try dsimp only at hSw)
                    go_simp
                    try with_reducible rfl
                  try simp only [List.getElem_toArray, List.getElem_cons_zero, List.getElem_cons_succ, Act.put, List.setIfInBounds_toArray, List.set_cons_zero, List.set_cons_succ]
                  refine wpAnyH_take (i := 1) (v := ?_) rfl (by kernel_rfl) (by kernel_rfl) (by kernel_rfl) (fun _ _ _ h => h) (Or.inl ⟨rfl, ?_⟩) (by assumption) ?_
                  rotate_left
                  · intro W hSw
                    (try dsimp only at hSw)
                    go_simp
                    try with_reducible rfl
                  try simp only [List.getElem_toArray, List.getElem_cons_zero, List.getElem_cons_succ, Act.put, List.setIfInBounds_toArray, List.set_cons_zero, List.set_cons_succ]
                  refine wpAnyH_take (i := 2) (v := ?_) rfl (by kernel_rfl) (by kernel_rfl) (by kernel_rfl) (fun _ _ _ h => h) (Or.inl ⟨rfl, ?_⟩) (by assumption) ?_
                  rotate_left
                  · intro W hSw
                    (try dsimp only at hSw)
                    go_simp
                    try with_reducible rfl
                  try simp only [List.getElem_toArray, List.getElem_cons_zero, List.getElem_cons_succ, Act.put, List.setIfInBounds_toArray, List.set_cons_zero, List.set_cons_succ]
                  refine wpAnyH_take (i := 3) (v := undef) rfl (by kernel_rfl) (by kernel_rfl) (by kernel_rfl) (fun _ _ _ h => h) (Or.inr ⟨rfl, rfl⟩) (by assumption) ?_
                  try simp only [List.getElem_toArray, List.getElem_cons_zero, List.getElem_cons_succ, Act.put, List.setIfInBounds_toArray, List.set_cons_zero, List.set_cons_succ]
                  refine wpAnyH_take (i := 4) (v := undef) rfl (by kernel_rfl) (by kernel_rfl) (by kernel_rfl) (fun _ _ _ h => h) (Or.inr ⟨rfl, rfl⟩) (by assumption) ?_
                  try simp only [List.getElem_toArray, List.getElem_cons_zero, List.getElem_cons_succ, Act.put, List.setIfInBounds_toArray, List.set_cons_zero, List.set_cons_succ]
                  refine wpAnyH_take (i := 5) (v := undef) rfl (by kernel_rfl) (by kernel_rfl) (by kernel_rfl) (fun _ _ _ h => h) (Or.inr ⟨rfl, rfl⟩) (by assumption) ?_
                  try simp only [List.getElem_toArray, List.getElem_cons_zero, List.getElem_cons_succ, Act.put, List.setIfInBounds_toArray, List.set_cons_zero, List.set_cons_succ]
                  refine wpAnyH_take (i := 6) (v := undef) rfl (by kernel_rfl) (by kernel_rfl) (by kernel_rfl) (fun _ _ _ h => h) (Or.inr ⟨rfl, rfl⟩) (by assumption) ?_
                  try simp only [List.getElem_toArray, List.getElem_cons_zero, List.getElem_cons_succ, Act.put, List.setIfInBounds_toArray, List.set_cons_zero, List.set_cons_succ]
                  refine wpAnyH_take (i := 7) (v := undef) rfl (by kernel_rfl) (by kernel_rfl) (by kernel_rfl) (fun _ _ _ h => h) (Or.inr ⟨rfl, rfl⟩) (by assumption) ?_
                  try simp only [List.getElem_toArray, List.getElem_cons_zero, List.getElem_cons_succ, Act.put, List.setIfInBounds_toArray, List.set_cons_zero, List.set_cons_succ]
                  refine wpAnyH_take (i := 8) (v := undef) rfl (by kernel_rfl) (by kernel_rfl) (by kernel_rfl) (fun _ _ _ h => h) (Or.inr ⟨rfl, rfl⟩) (by assumption) ?_
                  try simp only [List.getElem_toArray, List.getElem_cons_zero, List.getElem_cons_succ, Act.put, List.setIfInBounds_toArray, List.set_cons_zero, List.set_cons_succ]
                  refine wpAnyH_take (i := 9) (v := ?_) rfl (by kernel_rfl) (by kernel_rfl) (by kernel_rfl) (fun _ _ _ h => h) (Or.inl ⟨rfl, ?_⟩) (by assumption) ?_
                  rotate_left
                  · intro W hSw
                    (try dsimp only at hSw)
                    go_simp
                    try with_reducible rfl
                  try simp only [List.getElem_toArray, List.getElem_cons_zero, List.getElem_cons_succ, Act.put, List.setIfInBounds_toArray, List.set_cons_zero, List.set_cons_succ]
                  refine wpAnyH_take (i := 10) (v := ?_) rfl (by kernel_rfl) (by kernel_rfl) (by kernel_rfl) (fun _ _ _ h => h) (Or.inl ⟨rfl, ?_⟩) (by assumption) ?_
                  rotate_left
                  · intro W hSw
                    (try dsimp only at hSw)
                    go_simp
                    try with_reducible rfl
                  try simp only [List.getElem_toArray, List.getElem_cons_zero, List.getElem_cons_succ, Act.put, List.setIfInBounds_toArray, List.set_cons_zero, List.set_cons_succ]
                  refine wpAnyH_take (i := 11) (v := ?_) rfl (by kernel_rfl) (by kernel_rfl) (by kernel_rfl) (fun _ _ _ h => h) (Or.inl ⟨rfl, ?_⟩) (by assumption) ?_
                  rotate_left
                  · intro W hSw
                    (try dsimp only at hSw)
                    go_simp
                    try with_reducible rfl
                  try simp only [List.getElem_toArray, List.getElem_cons_zero, List.getElem_cons_succ, Act.put, List.setIfInBounds_toArray, List.set_cons_zero, List.set_cons_succ]
                  refine wpAnyH_take (i := 12) (v := ?_) rfl (by kernel_rfl) (by kernel_rfl) (by kernel_rfl) (fun _ _ _ h => h) (Or.inl ⟨rfl, ?_⟩) (by assumption) ?_
                  rotate_left
                  · intro W hSw
                    (try dsimp only at hSw)
                    go_simp
                    try with_reducible rfl
                  try simp only [List.getElem_toArray, List.getElem_cons_zero, List.getElem_cons_succ, Act.put, List.setIfInBounds_toArray, List.set_cons_zero, List.set_cons_succ]
                  refine wpAnyH_take (i := 13) (v := ?_) rfl (by kernel_rfl) (by kernel_rfl) (by kernel_rfl) (fun _ _ _ h => h) (Or.inl ⟨rfl, ?_⟩) (by assumption) ?_
                  rotate_left
                  · intro W hSw
                    (try dsimp only at hSw)
                    go_simp
                    try with_reducible rfl
                  try simp only [List.getElem_toArray, List.getElem_cons_zero, List.getElem_cons_succ, Act.put, List.setIfInBounds_toArray, List.set_cons_zero, List.set_cons_succ]
                  refine wpAnyH_take (i := 14) (v := ?_) rfl (by kernel_rfl) (by kernel_rfl) (by kernel_rfl) (fun _ _ _ h => h) (Or.inl ⟨rfl, ?_⟩) (by assumption) ?_
                  rotate_left
                  · intro W hSw
                    (try dsimp only at hSw)
                    go_simp
                    try with_reducible rfl
                  try simp only [List.getElem_toArray, List.getElem_cons_zero, List.getElem_cons_succ, Act.put, List.setIfInBounds_toArray, List.set_cons_zero, List.set_cons_succ]
                  refine wpAnyH_take (i := 15) (v := ?_) rfl (by kernel_rfl) (by kernel_rfl) (by kernel_rfl) (fun _ _ _ h => h) (Or.inl ⟨rfl, ?_⟩) (by assumption) ?_
                  rotate_left
                  · intro W hSw
                    (try dsimp only at hSw)
                    go_simp
                    try with_reducible rfl
                  try simp only [List.getElem_toArray, List.getElem_cons_zero, List.getElem_cons_succ, Act.put, List.setIfInBounds_toArray, List.set_cons_zero, List.set_cons_succ]
                  refine wpAnyH_take (i := 16) (v := .agg (cellsB pj)) rfl (by kernel_rfl) (by kernel_rfl) (by kernel_rfl) (fun _ _ _ h => h) (Or.inl ⟨rfl, ?_⟩) (by assumption) ?_
                  · intro W hSw
                    exact exec_load 48 (.tmp 176) rfl _ rfl _ hSw.1
                  try simp only [List.getElem_toArray, List.getElem_cons_zero, List.getElem_cons_succ, Act.put, List.setIfInBounds_toArray, List.set_cons_zero, List.set_cons_succ]
                  refine wpAnyH_take (i := 17) (v := .agg (cellsB pf)) rfl (by kernel_rfl) (by kernel_rfl) (by kernel_rfl) (fun _ _ _ h => h) (Or.inl ⟨rfl, ?_⟩) (by assumption) ?_
                  · intro W hSw
                    exact exec_load 48 (.tmp 21) rfl _ rfl _ hSw.2
                  try simp only [List.getElem_toArray, List.getElem_cons_zero, List.getElem_cons_succ, Act.put, List.setIfInBounds_toArray, List.set_cons_zero, List.set_cons_succ]
                  refine wpAnyH_ready (rs := [18]) (by kernel_rfl) (by simp) (AllReadyH.cons rfl (fun K hK => ?_) AllReadyH.nil)
                  go_simp
                  refine (hco.out _).mono ?_
                  rintro e w21 ⟨rfl, hb⟩
                  have hB21 := hB20.trans (hb.mono hB20.size)
                  clear hb
                  refine hK.out _ _ (hS.out _ hB21) (fun hHeld => ?_)
                  clear hK
                  try simp only [List.getElem_toArray, List.getElem_cons_zero, List.getElem_cons_succ, Act.put, List.setIfInBounds_toArray, List.set_cons_zero, List.set_cons_succ]
                  refine wpAnyH_take (i := 19) (v := ?_) rfl (by kernel_rfl) (by kernel_rfl) (by kernel_rfl) (fun _ _ _ h => h) (Or.inl ⟨rfl, ?_⟩) (by assumption) ?_
                  rotate_left
                  · intro W hSw
                    (try dsimp only at hSw)
                    go_simp
                    try with_reducible rfl
                  try simp only [List.getElem_toArray, List.getElem_cons_zero, List.getElem_cons_succ, Act.put, List.setIfInBounds_toArray, List.set_cons_zero, List.set_cons_succ]
                  refine wpAnyH_take (i := 20) (v := ?_) rfl (by kernel_rfl) (by kernel_rfl) (by kernel_rfl) (fun _ _ _ h => h) (Or.inl ⟨rfl, ?_⟩) (by assumption) ?_
                  rotate_left
                  · intro W hSw
                    (try dsimp only at hSw)
                    go_simp
                    try with_reducible rfl
                  try simp only [List.getElem_toArray, List.getElem_cons_zero, List.getElem_cons_succ, Act.put, List.setIfInBounds_toArray, List.set_cons_zero, List.set_cons_succ]
                  refine wpAnyH_take (i := 21) (v := ?_) rfl (by kernel_rfl) (by kernel_rfl) (by kernel_rfl) (fun _ _ _ h => h) (Or.inl ⟨rfl, ?_⟩) (by assumption) ?_
                  rotate_left
                  · intro W hSw
                    (try dsimp only at hSw)
                    go_simp
                    try with_reducible rfl
                  try simp only [List.getElem_toArray, List.getElem_cons_zero, List.getElem_cons_succ, Act.put, List.setIfInBounds_toArray, List.set_cons_zero, List.set_cons_succ]
                  refine wpAnyH_done (by kernel_rfl) ?_ _
                  (try dsimp only [NoPanic])
                  have hB21 := hB12.out.trans (hB21.mono hB12.out.size)
                  go_wp2_with fail
                  go_roundw
                  case rel => exact ⟨j + 1, by omega, by go_num, hB21⟩
                  case measure => simp [intOf]; omega
              · have hfin := Lib.hid (show ∃ (k' : Nat) (s : Chip) (g : Int → Option UInt8), k' = k + 1 ∧ Has w wr X c s ∧ s.Good k' ∧ s.kinds ∧ OneS s g ∧ ((s.bn : Int) = bn ∧ (s.pn : Int) = pn) ∧ MineP wr M G k' bn pn g from ⟨k + 1, s', g', rfl, hH.out.below hbr, hgn.out, hks'.out, hone.out, hgeo'.out, hmi.out.below hbr⟩)
                clear hRn hRp hone hone2 hmi bq
                go_wp2_with fail
                go_roundw
                case rel =>
                  obtain ⟨k', s2, g2, rfl, r1, r2, r3, r4, r5, r6⟩ := hfin.out
                  exact ⟨k + 1, s2, g2, by omega, by go_num, r1, r2, r3, r4, r5, r6⟩
                case measure => simp [intOf]; omega
    · go_wp2_with fail
      go_ret
      exact ⟨rfl, hH.bel⟩
end Go.Proofs.Ytlgjlhgdpiipbaa
