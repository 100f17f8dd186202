/- The reference's small functions: a kind's word, which fields a kind has, a number's digits. -/
import Derived.Test.YtpoongljokbgcaaDoorP
namespace Go.Proofs.YtpoongljokbgcaaDoor
open Go.RowKit
set_option maxHeartbeats 4000000 in
theorem wordr_any (k : Int) (w : World) :
    Calls Tryd.prog 59 #[.int .i64 k] w fun e w' => e = .returned (.string (S (Tr.word k))) ∧ w = w' := by
  by_cases hk : 1 ≤ k ∧ k ≤ 13
  · obtain ⟨h1, h2⟩ := hk
    rcases (by omega : k = 1 ∨ k = 2 ∨ k = 3 ∨ k = 4 ∨ k = 5 ∨ k = 6 ∨ k = 7 ∨ k = 8 ∨ k = 9 ∨ k = 10 ∨ k = 11 ∨ k = 12 ∨ k = 13) with rfl | rfl | rfl | rfl | rfl | rfl | rfl | rfl | rfl | rfl | rfl | rfl | rfl
    all_goals
      clear h1 h2
      go_enter Tryd.func59, Tryd.ntmps59
      go_wp2_with fail
      go_ret
      exact ⟨rfl, rfl⟩
  · have hfin := Lib.hid (show Tr.word k = [] by unfold Tr.word; rw [if_neg hk])
    have e1 : (k == 1) = false := beq_eq_false_iff_ne.2 (by omega)
    have e2 : (k == 2) = false := beq_eq_false_iff_ne.2 (by omega)
    have e3 : (k == 3) = false := beq_eq_false_iff_ne.2 (by omega)
    have e4 : (k == 4) = false := beq_eq_false_iff_ne.2 (by omega)
    have e5 : (k == 5) = false := beq_eq_false_iff_ne.2 (by omega)
    have e6 : (k == 6) = false := beq_eq_false_iff_ne.2 (by omega)
    have e7 : (k == 7) = false := beq_eq_false_iff_ne.2 (by omega)
    have e8 : (k == 8) = false := beq_eq_false_iff_ne.2 (by omega)
    have e9 : (k == 9) = false := beq_eq_false_iff_ne.2 (by omega)
    have e10 : (k == 10) = false := beq_eq_false_iff_ne.2 (by omega)
    have e11 : (k == 11) = false := beq_eq_false_iff_ne.2 (by omega)
    have e12 : (k == 12) = false := beq_eq_false_iff_ne.2 (by omega)
    have e13 : (k == 13) = false := beq_eq_false_iff_ne.2 (by omega)
    clear hk
    go_enter Tryd.func59, Tryd.ntmps59
    go_wp2_with fail
    go_ret
    exact ⟨by rw [hfin.out]; rfl, rfl⟩
theorem hasTo_any (k : Int) (w : World) (b : Bool) (h : b = true ↔ k = 3 ∨ k = 6) :
    Calls Tryd.prog 60 #[.int .i64 k] w fun e w' => e = .returned (.bool b) ∧ w = w' := by
  by_cases h3 : k = 3
  · obtain rfl : b = true := h.2 (.inl h3)
    subst h3; clear h
    go_enter Tryd.func60, Tryd.ntmps60
    go_wp2_with fail
    go_ret
    exact ⟨rfl, rfl⟩
  have e3 : (k == 3) = false := beq_eq_false_iff_ne.2 h3
  by_cases h6 : k = 6
  · obtain rfl : b = true := h.2 (.inr h6)
    subst h6; clear h h3
    go_enter Tryd.func60, Tryd.ntmps60
    go_wp2_with fail
    go_ret
    exact ⟨rfl, rfl⟩
  have e6 : (k == 6) = false := beq_eq_false_iff_ne.2 h6
  obtain rfl : b = false := by cases b; rfl; rcases h.1 rfl with e | e; exact absurd e h3; exact absurd e h6
  clear h h3 h6
  go_enter Tryd.func60, Tryd.ntmps60
  go_wp2_with fail
  go_ret
  exact ⟨rfl, rfl⟩
theorem hasOff_any (k : Int) (w : World) (b : Bool) (h : b = true ↔ k = 7 ∨ k = 9) :
    Calls Tryd.prog 61 #[.int .i64 k] w fun e w' => e = .returned (.bool b) ∧ w = w' := by
  by_cases h3 : k = 7
  · obtain rfl : b = true := h.2 (.inl h3)
    subst h3; clear h
    go_enter Tryd.func61, Tryd.ntmps61
    go_wp2_with fail
    go_ret
    exact ⟨rfl, rfl⟩
  have e3 : (k == 7) = false := beq_eq_false_iff_ne.2 h3
  by_cases h6 : k = 9
  · obtain rfl : b = true := h.2 (.inr h6)
    subst h6; clear h h3
    go_enter Tryd.func61, Tryd.ntmps61
    go_wp2_with fail
    go_ret
    exact ⟨rfl, rfl⟩
  have e6 : (k == 9) = false := beq_eq_false_iff_ne.2 h6
  obtain rfl : b = false := by cases b; rfl; rcases h.1 rfl with e | e; exact absurd e h3; exact absurd e h6
  clear h h3 h6
  go_enter Tryd.func61, Tryd.ntmps61
  go_wp2_with fail
  go_ret
  exact ⟨rfl, rfl⟩
theorem hasLen_any (k : Int) (w : World) (b : Bool) (h : b = true ↔ k = 8 ∨ k = 9) :
    Calls Tryd.prog 63 #[.int .i64 k] w fun e w' => e = .returned (.bool b) ∧ w = w' := by
  by_cases h3 : k = 8
  · obtain rfl : b = true := h.2 (.inl h3)
    subst h3; clear h
    go_enter Tryd.func63, Tryd.ntmps63
    go_wp2_with fail
    go_ret
    exact ⟨rfl, rfl⟩
  have e3 : (k == 8) = false := beq_eq_false_iff_ne.2 h3
  by_cases h6 : k = 9
  · obtain rfl : b = true := h.2 (.inr h6)
    subst h6; clear h h3
    go_enter Tryd.func63, Tryd.ntmps63
    go_wp2_with fail
    go_ret
    exact ⟨rfl, rfl⟩
  have e6 : (k == 9) = false := beq_eq_false_iff_ne.2 h6
  obtain rfl : b = false := by cases b; rfl; rcases h.1 rfl with e | e; exact absurd e h3; exact absurd e h6
  clear h h3 h6
  go_enter Tryd.func63, Tryd.ntmps63
  go_wp2_with fail
  go_ret
  exact ⟨rfl, rfl⟩
theorem below_grow (w : World) (k : Nat) (os : Array Obj) : Below w.heap.size w (Go.Sort.grow (w.drewN k) os) := by
  refine ⟨rfl, rfl, rfl, ?_, fun i hi => ?_⟩
  · show w.heap.size ≤ (w.heap ++ os).size
    simp
  · show (w.heap ++ os)[i]? = w.heap[i]?
    rw [Array.getElem?_append_left hi]
/-- The table that the library's FormatInt reads. -/
def Pw (w : World) : Prop := 1 < w.heap.size ∧ Lib.TabIs Tryd.prog w "internal/strconv.uint64pow10" .u64 Lib.pow10Tab
theorem numr_any (n : Int) (w : World) (hP : Pw w) (h : in64 n) :
    Calls Tryd.prog 62 #[.int .i64 n] w (TextBelow (Lib.itoa n) w) := by
  have hc := Tryd.strconv_FormatInt_10 n h.1 h.2 w hP.2
  replace hc := Lib.hid hc
  clear hP h
  go_enter Tryd.func62, Tryd.ntmps62
  go_wp2_with fail
  refine hc.out.mono ?_
  rintro e w1 ⟨rfl, kk, os, rfl⟩
  go_wp2_with fail
  go_ret
  exact ⟨rfl, below_grow w kk os⟩
theorem Pw.below {w w' : World} (h : Pw w) (hb : Below w.heap.size w w') : Pw w' := by
  refine ⟨Nat.lt_of_lt_of_le h.1 hb.size, ?_⟩
  have h2 := h.2
  have hg : Tryd.prog.globalNamed "internal/strconv.uint64pow10" = some 1 := by kernel_rfl
  unfold Lib.TabIs World.var? at *
  rw [hg] at h2 ⊢
  simp only [Option.bind_some] at h2 ⊢
  rw [hb.block 1 h.1]
  exact h2
end Go.Proofs.YtpoongljokbgcaaDoor
