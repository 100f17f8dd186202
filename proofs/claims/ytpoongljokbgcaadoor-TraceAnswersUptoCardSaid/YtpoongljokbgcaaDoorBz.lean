/- A slice of texts that lies ahead of a block. -/
import Derived.Test.YtpoongljokbgcaaDoorBc
namespace Go.Proofs.YtpoongljokbgcaaDoor
open Go.RowKit
/-- A slice of texts that lies ahead of block b. -/
def RdW (W : World) (v : Value) (ws : List (List UInt8)) (b : Nat) : Prop :=
  ∃ a cap, v = .slice a ws.length cap ∧ ws.length ≤ cap ∧ cap ≤ maxLen ∧ ∀ j x, ws[j]? = some x → ∃ b' o, a = some ⟨b', o, none⟩ ∧ b' < W.heap.size ∧ W.cell? ⟨b', o + j, none⟩ = some (strV x) ∧ b' < b
theorem RdW.below {W W' : World} {v : Value} {ws : List (List UInt8)} {b : Nat} (h : RdW W v ws b) (hb : Below W.heap.size W W') : RdW W' v ws b := by
  obtain ⟨a, cap, h1, h2, hm, h3⟩ := h
  refine ⟨a, cap, h1, h2, hm, fun j x hj => ?_⟩
  obtain ⟨b', o, e1, e2, e3, e4⟩ := h3 j x hj
  exact ⟨b', o, e1, Nat.lt_of_lt_of_le e2 hb.size, by rw [hb.cell (p := ⟨b', o + j, none⟩) e2]; exact e3, e4⟩
theorem RdW.setCell {W : World} {v : Value} {ws : List (List UInt8)} {b : Nat} (h : RdW W v ws b) (i : Nat) (u : Value) : RdW (W.setCell ⟨b, i, none⟩ u) v ws b := by
  obtain ⟨a, cap, h1, h2, hm, h3⟩ := h
  refine ⟨a, cap, h1, h2, hm, fun j x hj => ?_⟩
  obtain ⟨b', o, e1, e2, e3, e4⟩ := h3 j x hj
  refine ⟨b', o, e1, by simpa [World.setCell] using e2, ?_, e4⟩
  rw [World.cell?_setCell_other _ _ _ _ (by intro h; have h' := congrArg Addr.block h; simp at h'; omega)]
  exact e3
theorem RdW.cons {W : World} {v : Value} {x : List UInt8} {r : List (List UInt8)} {b : Nat} (h : RdW W v (x :: r) b) :
    ∃ b' o cap, v = .slice (some ⟨b', o, none⟩) (r.length + 1) cap ∧ r.length + 1 ≤ cap ∧ cap ≤ 9223372036854775807 ∧ b' < b ∧ W.cell? ⟨b', o, none⟩ = some (.string (S x)) ∧
      RdW W (.slice (if cap = 1 then some ⟨b', o, none⟩ else some ⟨b', o + 1, none⟩) r.length (cap - 1)) r b := by
  obtain ⟨a, cap, rfl, h2, hm, h3⟩ := h
  obtain ⟨b', o, rfl, e2, e3, e4⟩ := h3 0 x rfl
  rw [List.length_cons] at h2
  refine ⟨b', o, cap, rfl, h2, hm, e4, e3, ?_⟩
  by_cases hc : cap = 1
  · obtain rfl : r = [] := List.eq_nil_of_length_eq_zero (by omega)
    rw [if_pos hc]
    exact ⟨_, cap - 1, rfl, by simp, by omega, fun j y hj => by simp at hj⟩
  · rw [if_neg hc]
    refine ⟨_, cap - 1, rfl, by omega, by omega, fun j y hj => ?_⟩
    obtain ⟨b2, o2, e5, e6, e7, e8⟩ := h3 (j + 1) y (by simpa using hj)
    cases e5
    exact ⟨b', o + 1, rfl, e6, by rw [show o + 1 + j = o + (j + 1) by omega]; exact e7, e8⟩
theorem RdW.form {W : World} {v : Value} {ws : List (List UInt8)} {b : Nat} (h : RdW W v ws b) : ∃ a cap, v = .slice a ws.length cap := by
  obtain ⟨a, cap, h1, _⟩ := h; exact ⟨a, cap, h1⟩
theorem RdW.of_own {W : World} {B b : Nat} {v : Value} {ws : List (List UInt8)} (h : W.ownsRow B 9 1 v ws.length (ws.map strV)) (hb : W.heap.size ≤ b) : RdW W v ws b := by
  have hr := Rd.of_own (enc := strV) h
  obtain ⟨a, cap, h1, h2, h3⟩ := hr
  have hm : cap ≤ maxLen := by
    obtain ⟨_, ⟨rfl, h0⟩ | ⟨g, cap', cur, rfl, hg, hh, hc, hm, _⟩⟩ := h
    · simp only [Value.slice.injEq] at h1; omega
    · simp only [Value.slice.injEq] at h1; omega
  exact ⟨a, cap, h1, h2, hm, fun j x hj => by obtain ⟨b', o, e1, e2, e3⟩ := h3 j x hj; exact ⟨b', o, e1, e2, e3, by omega⟩⟩
end Go.Proofs.YtpoongljokbgcaaDoor
