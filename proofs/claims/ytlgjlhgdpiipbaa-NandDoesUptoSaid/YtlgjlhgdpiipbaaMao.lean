import Derived.Test.YtlgjlhgdpiipbaaMan
import Derived.Test.YtlgjlhgdpiipbaaMam
import Derived.Deep.CutBlock
import Derived.Deep.CutRange
/- NandPower: the walk (begun; not whole). -/
namespace Go.Proofs.Ytlgjlhgdpiipbaa
open Go.RowKit
theorem exec_pgn {ev : Operand → Value} {o : Oper} {W : World} (x y : Operand) (t : TypeId) (ho : o.op = Op.binOp .neq 48 x y t) (xs ys : Array Value) (hx : ev x = .agg xs) (hy : ev y = .agg ys) (v : Value) (hl : (binOp .neq 48 (.agg xs) (.agg ys)).run Try.prog W = .ok v W) : (execOp ev o).run Try.prog W = .ok (.value v) W := by
  simp [execOp, ho, hx, hy, run_eqGuard_agg W .neq 48 x y xs ys guard48, hl, Result.andThen]
theorem slice37 (la : Option Addr) (n lc k : Nat) (hk : k ≤ lc) (W : World) : (Instr.slice 37 (.slice la n lc) none (some (.int .i64 (k : Int))) none).run Try.prog W = .ok (.slice la k lc) W := by
  rw [run_slice_h W 37 la n lc (by kernel_rfl) .i64 k (by omega) (by omega)]
  rw [show (Go.sizeOf (Try.prog.elem 37)).run Try.prog W = .ok 5 W from by kernel_rfl]
  rcases la with _ | ⟨b, o, sp⟩ <;> simp [Result.andThen, sliced, Addr.add]
theorem RdC.take {α : Type} {f : α → List Value} {k : Nat} {W : World} {la : Option Addr} {n lc : Nat} {xs : List α} (h : RdC f k W (.slice la n lc) xs) (m : Nat) (hm : m ≤ xs.length) : RdC f k W (.slice la m lc) (xs.take m) := by
  obtain ⟨a, c, h1, h2, h3⟩ := h
  cases h1
  have hl : (xs.take m).length = m := by rw [List.length_take]; omega
  refine ⟨_, _, by rw [hl], by omega, fun j x hj => ?_⟩
  have hlt := (List.getElem?_eq_some_iff.1 hj).1
  rw [hl] at hlt
  rw [List.getElem?_take_of_lt hlt] at hj
  exact h3 j x hj
set_option maxRecDepth 100000 in
set_option maxHeartbeats 16000000 in
theorem power_any (bn pn : Int) (cs bs : List Cl) (u v : Value) (block : Int) (w : World) (hu : RdC clL 5 w u cs) (hv : RdC clL 5 w v bs) (hl1 : cs.length ≤ 9223372036854775807) :
    Calls Try.prog 7 #[.agg #[.int .i64 bn, .int .i64 pn], u, v, .int .i64 block] w (fun e w' => e = .returned (.bool true) ∧ Below w.heap.size w w') := by
  obtain ⟨ua, uc, rfl⟩ := hu.len
  obtain ⟨va, vc, rfl⟩ := hv.len
  have hb0 := (Below.refl w.heap.size w).alloc (Nat.le_refl _) (.cells #[.int .i64 bn, .int .i64 pn] 23)
  have bx0 := Box.new w 23 #[.int .i64 bn, .int .i64 pn]
  have g0 := (bx0).get 0 _ rfl
  have g1 := (bx0).get 1 _ rfl
  obtain ⟨n, hn⟩ : ∃ n, cs.length = n := ⟨_, rfl⟩
  rw [hn] at hl1 hu ⊢
  have hcap1 : n ≤ uc := by obtain ⟨_, _, h1, h2, _⟩ := hu; cases h1; rw [hn] at h2; exact h2
  have hcap2 : bs.length ≤ vc := by obtain ⟨_, _, h1, h2, _⟩ := hv; cases h1; exact h2
  obtain ⟨k1, hk1⟩ : ∃ kk, min n 200 = kk := ⟨_, rfl⟩
  have hmin1 := Lib.hid (show (if (200 : Int) < (n : Int) then (Value.int .i64 200) else Value.int .i64 (n : Int)) = Value.int .i64 (k1 : Int) by split <;> (congr 1; omega))
  have hmin1i := Lib.hid (show (if (200 : Int) < (n : Int) then (200 : Int) else (n : Int)) = (k1 : Int) by split <;> omega)
  have hsl1 := Lib.hid (fun W => slice37 ua n uc k1 (by omega) W)
  have hds1 := hu.take k1 (by omega)
  have hlen1 : (cs.take k1).length = k1 := by rw [List.length_take]; omega
  obtain ⟨k2, hk2⟩ : ∃ kk, min bs.length 30 = kk := ⟨_, rfl⟩
  have hmin2 := Lib.hid (show (if (30 : Int) < (bs.length : Int) then (30 : Int) else (bs.length : Int)) = (k2 : Int) by split <;> omega)
  have hsl2 := Lib.hid (fun W => slice37 va bs.length vc k2 (by omega) W)
  have hds2 := hv.take k2 (by omega)
  have hlen2 : (bs.take k2).length = k2 := by rw [List.length_take]; omega
  have hk200 : k1 ≤ 200 := by omega
  have hk30 : k2 ≤ 30 := by omega
  obtain ⟨ds, hds⟩ : ∃ ds, cs.take k1 = ds := ⟨_, rfl⟩
  obtain ⟨es, hes⟩ : ∃ ds, bs.take k2 = ds := ⟨_, rfl⟩
  rw [hds] at hds1 hlen1
  rw [hes] at hds2 hlen2
  clear hds hes hu hv hk1 hk2 hcap1 hcap2 hn
  obtain ⟨bl, hbl⟩ : ∃ n, bs.length = n := ⟨_, rfl⟩
  rw [hbl] at hmin2 hsl2 ⊢
  clear hbl
  replace hds1 := Lib.hid hds1
  replace hds2 := Lib.hid hds2
  have bx1 := Box.new (w.alloc (.cells #[.int .i64 bn, .int .i64 pn] 23)) 67 #[.int .i64 (1 + (n : Int) % 50), .int .i64 2, .slice none 0 0]
  have hb1 := hb0.alloc hb0.size (.cells #[.int .i64 (1 + (n : Int) % 50), .int .i64 2, .slice none 0 0] 67)
  rw [World.size_alloc] at bx1
  obtain ⟨W0, hW0⟩ : ∃ W0, (w.alloc (.cells #[.int .i64 bn, .int .i64 pn] 23)).alloc (.cells #[.int .i64 (1 + (n : Int) % 50), .int .i64 2, .slice none 0 0] 67) = W0 := ⟨_, rfl⟩
  rw [hW0] at bx1 hb1
  have hnew := has_new bn pn [] [⟨1 + (n : Int) % 50, 2, []⟩] (.slice none 0 0) _ w W0 hb1 (by simp) (by simp) (intS_nil _ _) (evS_bare W0 _ _ bx1)
  rw [power_new] at hnew
  replace hnew := Lib.hid hnew
  have hgood := fun st (h : newChip bn pn [] [⟨1 + (n : Int) % 50, 2, []⟩] = .ok st) => fresh_good h
  rw [power_new] at hgood
  replace hgood := Lib.hid hgood
  have hbg := Lib.hid hb1
  clear bx0 bx1 hb0 hb1
  go_enter Try.func7, Try.ntmps7
  go_wp2_with fail
  clear g0 g1 hW0
  refine hnew.out.mono ?_
  rintro e w2 ⟨hb2, hr⟩
  by_cases hg : geoOk bn pn
  case neg =>
    rw [if_neg hg] at hr
    cases hr
    replace hb2 := Lib.hid (hbg.out.trans (hb2.mono hbg.out.size))
    clear hnew hg hgood hbg
    go_wp2_with fail
    refine (begun_any _).mono ?_
    rintro e w3 ⟨rfl, hb3⟩
    replace hb3 := Lib.hid (hb2.out.trans (hb3.mono hb2.out.size))
    go_wp2_with fail
    refine (begun_any _).mono ?_
    rintro e w4 ⟨rfl, hb4⟩
    replace hb4 := Lib.hid (hb3.out.trans (hb4.mono hb3.out.size))
    go_wp2_with fail
    go_ret
    exact ⟨rfl, hb4.out⟩
  have hgood := hgood.out _ (if_pos hg)
  rw [if_pos hg] at hr
  obtain ⟨st, hst⟩ : ∃ st, freshChip bn.toNat pn.toNat [⟨1 + (n : Int) % 50, 2, []⟩] (fun _ => false) = st := ⟨_, rfl⟩
  rw [hst] at hr hgood
  obtain ⟨c, rfl, hH⟩ := hr
  replace hH := Lib.hid (hH (fun _ => False) (fun _ h => h.elim))
  replace hgood := Lib.hid hgood
  clear hnew hg hst hb2 hbg
  go_wp2_with fail
  refine (begun_any _).mono ?_
  rintro e w3 ⟨rfl, hb3⟩
  replace hH := Lib.hid (hH.out.below hb3)
  clear hb3
  replace hl1 := Lib.hid hl1
  replace hk200 := Lib.hid hk200
  replace hlen1 := Lib.hid hlen1
  replace hlen2 := Lib.hid hlen2
  have hmin1' := hmin1i.out
  have hsl1' := hsl1.out
  go_wp2_with fail
  clear hmin1' hsl1' hmin1 hsl1
  replace hlen1 := hlen1.out
  replace hk200 := hk200.out
  go_loopw [55] (fun i wr => ∃ k : Nat, k ≤ k1 ∧ i = .int .i64 k ∧ Has w wr (fun _ => False) c (st.runs (ds.take k))) (fun i _ => k1 - (intOf i).toNat)
  case atStart => exact ⟨0, by omega, rfl, hH.out⟩
  case round =>
    clear hH
    obtain ⟨k, hk, rfl, hH⟩ := hrel
    by_cases hlt : k < k1
    · have hlt' : k < ds.length := by omega
      obtain ⟨bb, o, cc, hv, _, hbb, hcell⟩ := (hds1.out.below hH.bel).at (by intro e; rw [e] at hlt'; simp at hlt')
      rw [hlen1] at hv
      cases hv
      have c0 := hcell k hlt' 0
      have c1 := hcell k hlt' 1
      have c2 := hcell k hlt' 2
      have c3 := hcell k hlt' 3
      have c4 := hcell k hlt' 4
      clear hcell
      have hsn := runs_snoc st (ds.take k) ds[k]
      rw [← List.take_succ_eq_append_getElem hlt'] at hsn
      have hgk := runs_good (ds.take k) 0 hgood.out
      have hlk : (ds.take k).length = k := by rw [List.length_take]; omega
      obtain ⟨q, hq⟩ : ∃ q, ds[k] = q := ⟨_, rfl⟩
      rw [hq] at c0 c1 c2 c3 c4 hsn
      have hcall := fun W (h : Has w W (fun _ => False) c (st.runs (ds.take k))) => has_does h hgk.fits (by have := hgk.ops.2; rw [hlk] at this; omega) (fun i hi => ⟨(hgk.wear i hi).1, by have := (hgk.wear i hi).2; rw [hlk] at this; omega⟩) q
      rw [← hsn] at hcall
      obtain ⟨qd, qb, qp, qn, qf⟩ := q
      replace c0 := c0 _ rfl
      replace c1 := c1 _ rfl
      replace c2 := c2 _ rfl
      replace c3 := c3 _ rfl
      replace c4 := c4 _ rfl
      dsimp only at c0 c1 c2 c3 c4
      replace c0 : wr.cell? ⟨bb, o + k * 5, none⟩ = _ := c0
      unfold clV at hcall
      dsimp only at hcall
      have hI0 : (0 : Int) ≤ (k : Int) := by omega
      have hI1 : (k : Int) < (k1 : Int) := by omega
      have bq := Box.new wr 40 #[.int .i64 qd, .int .i64 qb, .int .i64 qp, .bool qn, .int .u8 qf.toNat]
      have q0 := bq.get 0 _ rfl
      have q1 := bq.get 1 _ rfl
      have q2 := bq.get 2 _ rfl
      have q3 := bq.get 3 _ rfl
      have q4 := bq.get 4 _ rfl
      have hH5 := Lib.hid (hH.below ((Below.refl wr.heap.size wr).alloc (Nat.le_refl _) (.cells #[.int .i64 qd, .int .i64 qb, .int .i64 qp, .bool qn, .int .u8 qf.toNat] 40)))
      replace hcall := Lib.hid hcall
      clear bq hH hsn hgk hlk hq
      go_wp2_with fail
      refine (hcall.out _ hH5.out).mono ?_
      rintro e w6 ⟨rfl, hH6, _⟩
      replace hH6 := Lib.hid hH6
      clear hcall hH5 c0 c1 c2 c3 c4 q0 q1 q2 q3 q4
      go_wp2_with fail
      go_roundw
      case rel => exact ⟨k + 1, by omega, by go_num, hH6.out⟩
      case measure => simp [intOf]; omega
    · have hgk := runs_good (ds.take k) 0 hgood.out
      have hlk : (ds.take k).length = k := by rw [List.length_take]; omega
      rw [hlk] at hgk
      obtain ⟨s1, hs1⟩ : ∃ s, st.runs (ds.take k) = s := ⟨_, rfl⟩
      rw [hs1] at hH hgk
      have hdo := Lib.hid (fun W X (h : Has w W X c s1) q => has_does h hgk.fits (by have := hgk.ops.2; omega) (fun i hi => ⟨(hgk.wear i hi).1, by have := (hgk.wear i hi).2; omega⟩) q)
      clear hgood hds1 hlen1 hgk hlk hs1
      have hon := has_on hH
      have hops := has_ops hH
      obtain ⟨no, hno⟩ : ∃ n, s1.ops = n := ⟨_, rfl⟩
      rw [hno] at hops
      replace hops := Lib.hid hops
      replace hno := Lib.hid hno
      have hpg := Lib.hid (has_pages22 hH block)
      have hp32 := Lib.hid (pagesOf_len hH block)
      rename World => Wa
      rcases hoff : s1.off with _ | _
      · rw [hoff] at hon
        replace hon := Lib.hid hon
        replace hH := Lib.hid hH
        clear hops hpg hoff hp32
        go_wp2_with fail
        refine hon.out.mono ?_
        rintro e w' ⟨rfl, hw⟩
        obtain rfl := hw
        go_wp2_with fail
        go_ret
        exact ⟨rfl, hH.out.bel⟩
      · rw [hoff] at hon
        replace hon := Lib.hid hon
        replace hH := Lib.hid hH
        replace hoff := Lib.hid hoff
        go_wp2_with fail
        refine hon.out.mono ?_
        rintro e w' ⟨rfl, hw⟩
        obtain rfl := hw
        go_wp2_with fail
        refine hops.out.mono ?_
        rintro e w' ⟨rfl, hw⟩
        obtain rfl := hw
        go_wp2_with fail
        refine hpg.out.mono ?_
        rintro e w5 ⟨Bl, pa, pc, rfl, hBl, hbx, hrd, hla, hb5⟩
        have h21 := has_pages21 hH.out hb5 hp32.out hbx hrd hla
        have h288 := pagesOf_mem hH.out block
        obtain ⟨ps, hps⟩ : ∃ ps, s1.pagesOf block = ps := ⟨_, rfl⟩
        have hp32' := hp32.out
        rw [hps] at h21 h288 hp32'
        obtain ⟨np, hnp⟩ : ∃ n, ps.length = n := ⟨_, rfl⟩
        unfold HasPgs at h21
        rw [hnp] at h21 hp32'
        replace h21 := Lib.hid h21
        replace h288 := Lib.hid h288
        replace hnp := Lib.hid hnp
        replace hps := Lib.hid hps
        clear hH hon hops hpg hp32 hbx hrd hla hBl hb5
        go_wp2_with fail
        refine h21.out.mono ?_
        rintro e w6 ⟨ao, cp, bo, cq, rfl, hH, _, hR, _⟩
        obtain ⟨X, hX⟩ : ∃ X : Nat → Prop, X = fun b => w5.heap.size ≤ b ∧ b < w6.heap.size := ⟨_, rfl⟩
        replace hH : Has w w6 X c s1 := hH.less (by rw [hX]; exact fun b hb => .inr hb)
        rw [← hX] at hR
        clear hX h21
        replace hH := Lib.hid hH
        replace hR := Lib.hid hR
        have hmin2' := hmin2.out
        have hsl2' := hsl2.out
        go_upto_block 2 with fail
        clear hmin2' hsl2' hmin2 hsl2
        go_cut [17, 18, 19] from 80 (fun _ _ _ wx => ∃ o, Has w wx X c { s1 with off := o } ∧ RdX X pgL 288 wx (.slice bo np cq) ps)
        case first =>
          replace hlen2 := hlen2.out
          go_wp2_with fail
          go_loopw [80] (fun i wr => ∃ k : Nat, k ≤ k2 ∧ i = .int .i64 k ∧ Has w wr X c s1 ∧ RdX X pgL 288 wr (.slice bo np cq) ps) (fun i _ => k2 - (intOf i).toNat)
          case atStart => exact ⟨0, by omega, rfl, hH.out, hR.out⟩
          case round =>
            clear hH hR
            obtain ⟨k, hk, rfl, hH, hR⟩ := hrel
            by_cases hlt : k < k2
            · have hlt' : k < es.length := by omega
              obtain ⟨bb, o, cc, hv, _, hbb, hcell⟩ := (hds2.out.below hH.bel).at (by intro e; rw [e] at hlt'; simp at hlt')
              rw [hlen2] at hv
              cases hv
              have c0 := hcell k hlt' 0
              have c1 := hcell k hlt' 1
              have c2 := hcell k hlt' 2
              have c3 := hcell k hlt' 3
              have c4 := hcell k hlt' 4
              clear hcell
              obtain ⟨q, hq⟩ : ∃ q, es[k] = q := ⟨_, rfl⟩
              rw [hq] at c0 c1 c2 c3 c4
              have hq3 := fun h3 : q.do_ ≠ 3 => does_off hoff.out q h3
              have hq3' := fun h3 : q.do_ = 3 => (show s1.does q = ((rep 288 0, 0), { s1 with off := false }) by unfold Chip.does; rw [if_neg (by omega), if_neg (by omega), if_neg (by omega), if_pos h3])
              have hcall := fun W Y (h : Has w W Y c s1) => hdo.out W Y h q
              have hrl : (s1.does q).1.1.length = 288 := does_len hH q
              obtain ⟨rr, hrr⟩ : ∃ rr, s1.does q = rr := ⟨_, rfl⟩
              rw [hrr] at hcall hq3 hq3' hrl
              obtain ⟨⟨rp, re⟩, rs⟩ := rr
              dsimp only at hcall hq3 hrl
              obtain ⟨qd, qb, qp, qn, qf⟩ := q
              replace c0 := c0 _ rfl
              replace c1 := c1 _ rfl
              replace c2 := c2 _ rfl
              replace c3 := c3 _ rfl
              replace c4 := c4 _ rfl
              dsimp only at c0 c1 c2 c3 c4
              replace c0 : wr.cell? ⟨bb, o + k * 5, none⟩ = _ := c0
              unfold clV pgV at hcall
              dsimp only at hcall hq3 hq3'
              have hI0 : (0 : Int) ≤ (k : Int) := by omega
              have hI1 : (k : Int) < (k2 : Int) := by omega
              have bq := Box.new wr 40 #[.int .i64 qd, .int .i64 qb, .int .i64 qp, .bool qn, .int .u8 qf.toNat]
              have q0 := bq.get 0 _ rfl
              have q1 := bq.get 1 _ rfl
              have q2 := bq.get 2 _ rfl
              have q3 := bq.get 3 _ rfl
              have q4 := bq.get 4 _ rfl
              have hal := (Below.refl wr.heap.size wr).alloc (Nat.le_refl _) (.cells #[.int .i64 qd, .int .i64 qb, .int .i64 qp, .bool qn, .int .u8 qf.toNat] 40)
              have hH5 := Lib.hid (hH.add (Y := fun b => X b ∨ b = wr.heap.size) hal (fun b hb => by rcases hb with hb | hb; exact .inl hb; exact .inr ⟨by omega, by rw [World.size_alloc]; omega⟩))
              have hR5 := Lib.hid (hR.below hal)
              have hqd := Lib.hid (fun h0 : ¬ qd = 3 => hq3 h0)
              replace hcall := Lib.hid hcall
              replace hq3' := Lib.hid hq3'
              replace bq := Lib.hid bq
              replace hrl := Lib.hid hrl
              clear hH hR hal hq hrr hq3
              go_wp2_with fail
              refine (hcall.out _ _ hH5.out).mono ?_
              rintro e w6 ⟨rfl, hH6, hsm⟩
              have b6 := bq.out.same hsm (.inr rfl)
              have hR6 := hR5.out.same (X := X) ⟨fun b hb => hsm.1 b (.inl hb), hsm.2⟩
              have bz := Box.new w6 48 (cellsB (rep 288 0))
              obtain ⟨hst, by7, hg7⟩ := bz.storePg (l := rp) (by rw [cellsB_size, rep_len]) hrl.out
              have hal7 := ((Below.refl w6.heap.size w6).alloc (Nat.le_refl _) (.cells (cellsB (rep 288 0)) 48)).grown hg7 (by rw [World.size_alloc]; omega) (fun b e => by cases e; exact Nat.le_refl _)
              obtain ⟨w7, hw7⟩ : ∃ W2, (w6.alloc (.cells (cellsB (rep 288 0)) 48)).setRow w6.heap.size (cellsB rp) = W2 := ⟨_, rfl⟩
              rw [hw7] at hst hal7
              have b7 := b6.below hal7
              have k0 := b7.get 0 _ rfl
              have hH7 := Lib.hid ((hH6.below hal7).less (Y := X) (fun b hb => .inl hb))
              have hR7 := hR6.below hal7
              replace hR7 := Lib.hid hR7
              have hz := zero48
              clear hcall hH5 hR5 c0 c1 c2 c3 c4 q0 q1 q2 q3 q4 bq hsm hR6 hH6 bz by7 hg7 hal7 hw7 b6 b7
              unfold pgV at hst
              go_upto_region 17 with (refine wpList_store_var rfl 48 _ _ rfl _ rfl _ rfl hst ?_)
              clear hst hz
              by_cases h3 : qd = 3
              · subst h3
                have e := hq3'.out rfl
                simp only [Prod.mk.injEq] at e
                obtain ⟨⟨_, rfl⟩, rfl⟩ := e
                clear hqd hq3' hrl
                go_wp2_with fail
                go_meet
                case rel => exact ⟨_, hH7.out, hR7.out⟩
              · obtain ⟨rfl, h8⟩ := hqd.out h3
                clear hqd hq3' hrl
                have hfin : ∃ j : Nat, j ≤ k2 ∧ Value.int .i64 ((k : Int) + 1) = .int .i64 j ∧ Has w w7 X c rs ∧ RdX X pgL 288 w7 (.slice bo np cq) ps := ⟨k + 1, by omega, by simp, hH7.out, hR7.out⟩
                replace hfin := Lib.hid hfin
                by_cases h0 : 0 ≤ qd
                · by_cases h2 : qd ≤ 2
                  · have e8 := h8 ⟨h0, h2⟩
                    subst e8
                    clear h8
                    go_wp2_with fail
                    go_roundw
                    case rel => exact hfin.out
                    case measure => simp [intOf]; omega
                  · clear h8
                    go_wp2_with fail
                    go_roundw
                    case rel => exact hfin.out
                    case measure => simp [intOf]; omega
                · clear h8
                  go_wp2_with fail
                  go_roundw
                  case rel => exact hfin.out
                  case measure => simp [intOf]; omega
            · go_wp2_with fail
              go_meet
              case rel => exact ⟨true, by rw [on_self hoff.out]; exact hH, hR⟩
        case rest =>
          clear hds2 hdo hoff hlen2
          obtain ⟨o, hH, hR⟩ := hcut
          have hops : Calls Try.prog 18 #[.pointer (some ⟨c, 0, none⟩)] wc (ValQ (.int .i64 no) wc) := by have := has_ops hH; rw [← hno.out]; exact this
          have hres := has_restart hH
          replace hops := Lib.hid hops
          replace hres := Lib.hid hres
          replace hR := Lib.hid hR
          clear hH
          go_wp2_with fail
          refine hops.out.mono ?_
          rintro e w' ⟨rfl, hw⟩
          obtain rfl := hw
          go_wp2_with fail
          refine hres.out.mono ?_
          rintro e w7 ⟨rfl, hH, hsm⟩
          replace hR := Lib.hid (hR.out.same hsm)
          clear hops hres hsm
          have hon : Calls Try.prog 16 #[.pointer (some ⟨c, 0, none⟩)] w7 (ValQ (.bool true) w7) := has_on hH
          have hpg := has_pages22 hH block
          replace hpg : Calls Try.prog 22 #[.pointer (some ⟨c, 0, none⟩), .int .i64 block] w7 (SeqPg ps w7) := by rw [← hps.out]; exact hpg
          replace hon := Lib.hid hon
          unfold SeqPg at hpg
          rw [hnp.out] at hpg
          replace hpg := Lib.hid hpg
          replace hH := Lib.hid hH
          go_wp2_with fail
          refine hon.out.mono ?_
          rintro e w' ⟨rfl, hw⟩
          obtain rfl := hw
          go_wp2_with fail
          refine hpg.out.mono ?_
          rintro e w8 ⟨Bl, pa, pc, rfl, hBl, hbx, hrd, hla, hb8⟩
          have hp32 : ps.length ≤ 32 := by rw [hnp.out]; exact hp32'
          rw [← hnp.out] at hbx hrd
          have h21 := has_pages21 hH.out hb8 hp32 hbx hrd hla
          unfold HasPgs at h21
          rw [hnp.out] at h21
          replace h21 := Lib.hid h21
          replace hR := Lib.hid (hR.out.below hb8)
          clear hH hon hpg hp32 hbx hrd hla hBl hb8
          go_wp2_with fail
          refine h21.out.mono ?_
          rintro e w9 ⟨ao2, cp2, bo2, cq2, rfl, hH, _, hR2, hb9⟩
          replace hR := Lib.hid (hR.out.below hb9)
          replace hR2 := Lib.hid hR2
          replace hH := Lib.hid hH
          clear h21 hb9
          go_wp2_with fail
          go_loopw [134] (fun i wr => ∃ k : Nat, k ≤ np ∧ i = .int .i64 k ∧ Below w9.heap.size w9 wr) (fun i _ => np - (intOf i).toNat)
          case atStart => exact ⟨0, by omega, rfl, Below.refl _ _⟩
          case round =>
            obtain ⟨k, hk, rfl, hbr⟩ := hrel
            by_cases hlt : k < np
            · have hlt' : k < ps.length := by rw [hnp.out]; exact hlt
              obtain ⟨ba, oa, ca, hva, _, _, _, _⟩ := hR.out.at (by intro e; rw [e] at hlt'; simp at hlt')
              rw [hnp.out] at hva
              cases hva
              obtain ⟨bc, oc, cc, hvc, _, _, _, _⟩ := hR2.out.at (by intro e; rw [e] at hlt'; simp at hlt')
              rw [hnp.out] at hvc
              cases hvc
              have hI0 : (0 : Int) ≤ (k : Int) := by omega
              have hI1 : (k : Int) < (np : Int) := by omega
              have h2 := h288.out _ (List.getElem_mem hlt')
              have q1 := fun W => pg_neq ps[k] ps[k] h2 h2 W
              have hS := Lib.hid (fun W (hb : Below w9.heap.size w9 W) => show (fun W => (loadVar 48 ⟨ba, oa + k * 288, none⟩).run Try.prog W = .ok (pgV ps[k]) W ∧ (loadVar 48 ⟨bc, oc + k * 288, none⟩).run Try.prog W = .ok (pgV ps[k]) W) W from ⟨(hR.out.below hb).load h288.out k hlt', (hR2.out.below hb).load h288.out k hlt'⟩)
              clear h2
              obtain ⟨p, hp⟩ : ∃ p, ps[k] = p := ⟨_, rfl⟩
              rw [hp] at q1 hS
              unfold pgV at q1 hS
              replace q1 : ∀ W, (binOp .neq 48 (.agg (cellsB p)) (.agg (cellsB p))).run Try.prog W = .ok (.bool false) W := fun W => by rw [q1 W]; simp
              clear hp
              go_upto_region 29 with fail
              refine wp_region_noPanic ?_
              refine wp_region_held_drew (S := fun W => (loadVar 48 ⟨ba, oa + k * 288, none⟩).run Try.prog W = .ok (.agg (cellsB p)) W ∧ (loadVar 48 ⟨bc, oc + k * 288, none⟩).run Try.prog W = .ok (.agg (cellsB p)) W) (by kernel_rfl) (hS.out _ (hbr.trans ((Below.refl _ _).drew.mono hbr.size))) (fun hHeld => ?_)
              refine wpAnyH_take (i := 0) (v := ?_) rfl (by kernel_rfl) (by kernel_rfl) (by kernel_rfl) (fun _ _ _ h => h) (Or.inl ⟨rfl, ?_⟩) (by assumption) ?_
              rotate_left
              · intro W hSw
                (try dsimp only at hSw)
                go_simp
                try with_reducible rfl
              try simp only [List.getElem_toArray, List.getElem_cons_zero, List.getElem_cons_succ, Act.put, List.setIfInBounds_toArray, List.set_cons_zero, List.set_cons_succ]
              refine wpAnyH_take (i := 1) (v := ?_) rfl (by kernel_rfl) (by kernel_rfl) (by kernel_rfl) (fun _ _ _ h => h) (Or.inl ⟨rfl, ?_⟩) (by assumption) ?_
              rotate_left
              · intro W hSw
                (try dsimp only at hSw)
                go_simp
                try with_reducible rfl
              try simp only [List.getElem_toArray, List.getElem_cons_zero, List.getElem_cons_succ, Act.put, List.setIfInBounds_toArray, List.set_cons_zero, List.set_cons_succ]
              refine wpAnyH_take (i := 2) (v := ?_) rfl (by kernel_rfl) (by kernel_rfl) (by kernel_rfl) (fun _ _ _ h => h) (Or.inl ⟨rfl, ?_⟩) (by assumption) ?_
              rotate_left
              · intro W hSw
                (try dsimp only at hSw)
                go_simp
                try with_reducible rfl
              try simp only [List.getElem_toArray, List.getElem_cons_zero, List.getElem_cons_succ, Act.put, List.setIfInBounds_toArray, List.set_cons_zero, List.set_cons_succ]
              refine wpAnyH_take (i := 3) (v := .agg (cellsB p)) rfl (by kernel_rfl) (by kernel_rfl) (by kernel_rfl) (fun _ _ _ h => h) (Or.inl ⟨rfl, ?_⟩) (by assumption) ?_
              · intro W hSw
                exact exec_load 48 (.tmp 139) rfl _ rfl _ hSw.1
              try simp only [List.getElem_toArray, List.getElem_cons_zero, List.getElem_cons_succ, Act.put, List.setIfInBounds_toArray, List.set_cons_zero, List.set_cons_succ]
              refine wpAnyH_take (i := 4) (v := ?_) rfl (by kernel_rfl) (by kernel_rfl) (by kernel_rfl) (fun _ _ _ h => h) (Or.inl ⟨rfl, ?_⟩) (by assumption) ?_
              rotate_left
              · intro W hSw
                (try dsimp only at hSw)
                go_simp
                try with_reducible rfl
              try simp only [List.getElem_toArray, List.getElem_cons_zero, List.getElem_cons_succ, Act.put, List.setIfInBounds_toArray, List.set_cons_zero, List.set_cons_succ]
              refine wpAnyH_take (i := 5) (v := ?_) rfl (by kernel_rfl) (by kernel_rfl) (by kernel_rfl) (fun _ _ _ h => h) (Or.inl ⟨rfl, ?_⟩) (by assumption) ?_
              rotate_left
              · intro W hSw
                (try dsimp only at hSw)
                go_simp
                try with_reducible rfl
              try simp only [List.getElem_toArray, List.getElem_cons_zero, List.getElem_cons_succ, Act.put, List.setIfInBounds_toArray, List.set_cons_zero, List.set_cons_succ]
              refine wpAnyH_take (i := 6) (v := ?_) rfl (by kernel_rfl) (by kernel_rfl) (by kernel_rfl) (fun _ _ _ h => h) (Or.inl ⟨rfl, ?_⟩) (by assumption) ?_
              rotate_left
              · intro W hSw
                (try dsimp only at hSw)
                go_simp
                try with_reducible rfl
              try simp only [List.getElem_toArray, List.getElem_cons_zero, List.getElem_cons_succ, Act.put, List.setIfInBounds_toArray, List.set_cons_zero, List.set_cons_succ]
              refine wpAnyH_take (i := 7) (v := .agg (cellsB p)) rfl (by kernel_rfl) (by kernel_rfl) (by kernel_rfl) (fun _ _ _ h => h) (Or.inl ⟨rfl, ?_⟩) (by assumption) ?_
              · intro W hSw
                exact exec_load 48 (.tmp 143) rfl _ rfl _ hSw.2
              try simp only [List.getElem_toArray, List.getElem_cons_zero, List.getElem_cons_succ, Act.put, List.setIfInBounds_toArray, List.set_cons_zero, List.set_cons_succ]
              refine wpAnyH_take (i := 8) (v := .bool false) rfl (by kernel_rfl) (by kernel_rfl) (by kernel_rfl) (fun _ _ _ h => h) (Or.inl ⟨rfl, ?_⟩) (by assumption) ?_
              · intro W hSw
                exact exec_pgn (.tmp 140) (.tmp 144) 48 rfl _ _ rfl rfl _ (q1 W)
              try simp only [List.getElem_toArray, List.getElem_cons_zero, List.getElem_cons_succ, Act.put, List.setIfInBounds_toArray, List.set_cons_zero, List.set_cons_succ]
              refine wpAnyH_done (by kernel_rfl) ?_ _
              (try dsimp only [NoPanic])
              go_wp2_with fail
              go_roundw
              case rel => exact ⟨k + 1, by omega, by go_num, hbr.trans ((Below.refl _ _).drew.mono hbr.size)⟩
              case measure => simp [intOf]; omega
            · go_wp2_with fail
              go_ret
              exact ⟨rfl, hH.out.bel.trans (hbr.mono hH.out.bel.size)⟩
end Go.Proofs.Ytlgjlhgdpiipbaa
