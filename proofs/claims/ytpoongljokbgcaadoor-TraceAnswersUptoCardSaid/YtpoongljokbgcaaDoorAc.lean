/- Two answers that are the same are told so (slipwayref23.SameEntries, SameResult at equal answers). -/
import Derived.Test.YtpoongljokbgcaaDoorAa
namespace Go.Proofs.YtpoongljokbgcaaDoor
open Go.RowKit
def TrueDrawn (w : World) (e : Ending) (w' : World) : Prop := e = .returned (.bool true) ∧ ∃ n, w' = w.drewN n
set_option maxRecDepth 100000 in
set_option maxHeartbeats 4000000 in
theorem sameEntries_true (xs : List Ent) (v u : Value) (w : World) (hv : RdE w v xs) (hu : RdE w u xs) (hm : xs.length ≤ 1000000000000) :
    Calls Tryd.prog 51 #[v, u] w (TrueDrawn w) := by
  have hat : xs ≠ [] → _ := hv.at
  have hau : xs ≠ [] → _ := hu.at
  obtain ⟨a, cap, rfl⟩ := hv.len
  obtain ⟨a2, cap2, rfl⟩ := hu.len
  replace hat := Lib.hid hat
  replace hau := Lib.hid hau
  clear hv hu
  go_enter Tryd.func51, Tryd.ntmps51
  go_wp2_with fail
  go_loopw [5] (fun k wr => ∃ i n : Nat, i ≤ xs.length ∧ k = .int .i64 i ∧ wr = w.drewN n)
    (fun k _ => xs.length - (intOf k).toNat)
  case atStart => exact ⟨0, 0, Nat.zero_le _, rfl, rfl⟩
  case round =>
    obtain ⟨i, n, hi, rfl, rfl⟩ := hrel
    by_cases hlt : i < xs.length
    · have hne : xs ≠ [] := by intro h; rw [h] at hlt; simp at hlt
      obtain ⟨b, o, c, hv, hcap, hb, hcell⟩ := hat.out hne
      cases hv
      obtain ⟨b2, o2, c2, hv2, hcap2, hb2, hcell2⟩ := hau.out hne
      cases hv2
      obtain ⟨d0, d1, d2⟩ := hcell i hlt
      obtain ⟨f0, f1, f2⟩ := hcell2 i hlt
      clear hcell hcell2 hat hau hne
      obtain ⟨x, hx⟩ : ∃ x, xs[i] = x := ⟨_, rfl⟩
      rw [hx] at d0 d1 d2 f0 f1 f2
      clear hx
      obtain ⟨xn, xi, xk⟩ := x
      dsimp only at d0 d1 d2 f0 f1 f2
      have hI0 : (0 : Int) ≤ (i : Int) := by omega
      have hI1 : (i : Int) < (xs.length : Int) := by omega
      go_wp2_with fail
      go_quiet (fail)
      go_wp2_with fail
      go_roundw
      case rel => exact ⟨i + 1, _, by omega, by go_num, rfl⟩
      case measure => simp [intOf]; omega
    · have hi' : i = xs.length := by omega
      subst hi'
      go_wp2_with fail
      go_ret
      exact ⟨rfl, n, rfl⟩
set_option maxRecDepth 100000 in
set_option maxHeartbeats 4000000 in
theorem sameResult_true (r : Res) (dv lv dv' lv' : Value) (w : World) (hm : r.list.length ≤ 1000000000000) (hd : RdB w dv r.data) (hl : RdE w lv r.list) (hd' : RdB w dv' r.data) (hl' : RdE w lv' r.list) :
    Calls Tryd.prog 17 #[.agg #[.int .i64 r.err, dv, .int .i64 r.kind, .int .i64 r.links, .int .i64 r.size, lv], .agg #[.int .i64 r.err, dv', .int .i64 r.kind, .int .i64 r.links, .int .i64 r.size, lv']] w fun e w' => e = .returned (.bool true) ∧ Below w.heap.size w w' := by
  have hb : ∀ o1 o2 : Obj, Below w.heap.size w ((w.alloc o1).alloc o2) := fun o1 o2 => ((Below.refl _ _).alloc (Nat.le_refl _) _).alloc (by simp) _
  have hs := fun o1 o2 : Obj => sameEntries_true r.list lv lv' ((w.alloc o1).alloc o2) (hl.below (hb o1 o2)) (hl'.below (hb o1 o2)) hm
  have hc := fun o1 o2 : Obj => convert_rd (P := Tryd.prog) Tryd.underlying28 Tryd.underlying5 Tryd.underlying9 (hd.below (hb o1 o2))
  have hc' := fun o1 o2 : Obj => convert_rd (P := Tryd.prog) Tryd.underlying28 Tryd.underlying5 Tryd.underlying9 (hd'.below (hb o1 o2))
  replace hs := Lib.hid hs
  replace hb := Lib.hid hb
  clear hd hd' hl hl' hm
  obtain ⟨er, l, kd, ln, sz, xs⟩ := r
  dsimp only at *
  go_enter Tryd.func17, Tryd.ntmps17
  go_wp2_with fail
  refine (hs.out _ _).mono ?_
  rintro e w1 ⟨rfl, n, rfl⟩
  go_wp2_with fail
  go_ret
  have h0 := hb.out (.cells #[.int .i64 er, dv, .int .i64 kd, .int .i64 ln, .int .i64 sz, lv] 33) (.cells #[.int .i64 er, dv', .int .i64 kd, .int .i64 ln, .int .i64 sz, lv'] 33)
  exact ⟨rfl, ⟨h0.os, h0.tape, h0.output, h0.size, h0.block⟩⟩
end Go.Proofs.YtpoongljokbgcaaDoor
