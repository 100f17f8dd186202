/- The reference's kind of a word (slipwayref27.kind). -/
import Derived.Test.YtpoongljokbgcaaDoorBa
import Derived.Test.YtpoongljokbgcaaDoorU
namespace Go.Proofs.YtpoongljokbgcaaDoor
open Go.RowKit
/-- the first kind from k on that has this word -/
theorem word_inj (a b : Nat) (h1 : 1 ≤ a) (h2 : a ≤ 13) (h3 : 1 ≤ b) (h4 : b ≤ 13) (h : Tr.word a = Tr.word b) : a = b := by
  have : ∀ a : Fin 14, ∀ b : Fin 14, 1 ≤ a.val → 1 ≤ b.val → Tr.word (a.val : Int) = Tr.word (b.val : Int) → a = b := by decide
  exact congrArg Fin.val (this ⟨a, by omega⟩ ⟨b, by omega⟩ h1 h3 h)
theorem kindN_succ (x : List UInt8) (n : Nat) : Tr.kindN x (n + 1) = if Tr.word ((n + 1 : Nat) : Int) = x then ((n + 1 : Nat) : Int) else Tr.kindN x n := rfl
theorem kindN_none (x : List UInt8) (n : Nat) (h : ∀ k : Nat, 1 ≤ k → k ≤ n → Tr.word k ≠ x) : Tr.kindN x n = 0 := by
  induction n with
  | zero => rfl
  | succ n ih =>
    rw [kindN_succ, if_neg (h (n + 1) (by omega) (Nat.le_refl _)), ih (fun k h1 h2 => h k h1 (by omega))]
theorem kindN_at (x : List UInt8) (k : Nat) (h1 : 1 ≤ k) (h : Tr.word k = x) : ∀ n, k ≤ n → n ≤ 13 → Tr.kindN x n = k := by
  intro n
  induction n with
  | zero => intro h; omega
  | succ n ih =>
    intro hk hn
    rw [kindN_succ]
    by_cases he : k = n + 1
    · subst he; rw [if_pos h]
    · rw [if_neg (fun e => he (word_inj k (n + 1) h1 (by omega) (by omega) hn (h.trans e.symm))), ih (by omega) (by omega)]
set_option maxRecDepth 100000 in
theorem kindr_any (x : List UInt8) (w : World) :
    Calls Tryd.prog 66 #[.string (S x)] w fun e w' => e = .returned (.int .i64 (Tr.kindOf x)) ∧ w = w' := by
  go_enter Tryd.func66, Tryd.ntmps66
  go_wp2_with fail
  go_loopw [3] (fun k wr => ∃ i : Nat, 1 ≤ i ∧ i ≤ 14 ∧ k = .int .i64 i ∧ (∀ j : Nat, 1 ≤ j → j < i → Tr.word j ≠ x) ∧ wr = w)
    (fun k _ => 14 - (intOf k).toNat)
  case atStart => exact ⟨1, by omega, by omega, rfl, fun j h1 h2 => by omega, rfl⟩
  case round =>
    obtain ⟨i, h1, h14, rfl, hno, rfl⟩ := hrel
    replace hno := Lib.hid hno
    by_cases hle : i ≤ 13
    · by_cases hx : Tr.word i = x
      · have hfin := Lib.hid (show Tr.kindOf x = i from kindN_at x i h1 hx 13 hle (Nat.le_refl _))
        obtain ⟨y, hy⟩ : ∃ y, Tr.word (i : Int) = y := ⟨_, rfl⟩
        have hyx : (y == x) = true := by rw [← hy]; simpa using hx
        have hC := wordr_any i wr
        rw [hy] at hC
        clear hx
        replace hy := Lib.hid hy
        replace hC := Lib.hid hC
        go_wp2_with fail
        refine hC.out.mono ?_
        rintro e w' ⟨rfl, rfl⟩
        go_wp2_with fail
        go_ret
        exact ⟨by rw [hfin.out]; rfl, rfl⟩
      · obtain ⟨y, hy⟩ : ∃ y, Tr.word (i : Int) = y := ⟨_, rfl⟩
        have hyx : (y == x) = false := by rw [← hy]; simpa using hx
        have hC := wordr_any i wr
        rw [hy] at hC
        have hnx := Lib.hid (show ∀ j : Nat, 1 ≤ j → j < i + 1 → Tr.word j ≠ x from fun j h1 h2 => by
          by_cases he : j = i
          · subst he; exact hx
          · exact hno.out j h1 (by omega))
        clear hx
        replace hy := Lib.hid hy
        replace hC := Lib.hid hC
        go_wp2_with fail
        refine hC.out.mono ?_
        rintro e w' ⟨rfl, rfl⟩
        go_wp2_with fail
        go_roundw
        case rel => exact ⟨i + 1, by omega, by omega, by go_num, hnx.out, trivial⟩
        case measure => simp [intOf]; omega
    · obtain rfl : i = 14 := by omega
      have hfin := Lib.hid (show Tr.kindOf x = 0 from kindN_none x 13 (fun k h1 h2 => hno.out k h1 (by omega)))
      go_wp2_with fail
      go_ret
      exact ⟨by rw [hfin.out]; rfl, rfl⟩
end Go.Proofs.YtpoongljokbgcaaDoor
