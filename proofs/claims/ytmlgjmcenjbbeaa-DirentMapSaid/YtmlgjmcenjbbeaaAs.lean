/- What Add answers, case by case. -/
import Derived.Test.YtmlgjmcenjbbeaaAi
namespace Go.Proofs.Ytmlgjmcenjbbeaa
open Go.RowKit
namespace Nm
theorem add_err {b : List UInt8} {e : Ent} (h : chk e ≠ 0) : add b e = (none, chk e) := by unfold add; rw [if_pos h]
theorem add_dir {b : List UInt8} {e : Ent} (h : chk e = 0) (h2 : recs b = none) : add b e = (none, 160) := by unfold add; rw [if_neg (by simpa using h), h2]
theorem add_twice {b : List UInt8} {e : Ent} {l : List Rec} (h : chk e = 0) (h2 : recs b = some l) (h3 : l.any (isNamed e.name) = true) : add b e = (none, 5) := by
  unfold add; rw [if_neg (by simpa using h), h2]; simp only; rw [if_pos h3]
theorem add_full {b : List UInt8} {e : Ent} {l : List Rec} (h : chk e = 0) (h2 : recs b = some l) (h3 : l.any (isNamed e.name) = false) (h4 : l.any (hasRoom e.name) = false) : add b e = (none, 6) := by
  unfold add; rw [if_neg (by simpa using h), h2]; simp only; rw [if_neg (by rw [h3]; simp)]
  rw [List.getElem?_eq_none]
  rw [List.findIdx_eq_length.2 (fun x hx => by simpa using List.any_eq_false.1 h4 x hx)]
  exact Nat.le_refl _
theorem add_some {b : List UInt8} {e : Ent} {l : List Rec} {k : Nat} (h : chk e = 0) (h2 : recs b = some l) (h3 : l.any (isNamed e.name) = false) (hk : k < l.length) (h4 : hasRoom e.name l[k] = true) (h5 : (l.take k).any (hasRoom e.name) = false) : add b e = (some (addRec b l[k] e), 0) := by
  unfold add; rw [if_neg (by simpa using h), h2]; simp only; rw [if_neg (by rw [h3]; simp)]
  have : l.findIdx (hasRoom e.name) = k := by
    rw [List.findIdx_eq hk]
    exact ⟨h4, fun j hj => by
      have := List.any_eq_false.1 h5 l[j] (by rw [List.mem_take_iff_getElem]; exact ⟨j, by omega, rfl⟩)
      simpa using this⟩
  rw [this, List.getElem?_eq_getElem hk]
theorem find_named (l : List Rec) (n : List UInt8) : (findIn (entsOf l) n).isSome = l.any (isNamed n) := by
  induction l with
  | nil => rfl
  | cons r l ih =>
    unfold findIn entsOf at *
    rw [List.any_cons, ← ih, List.filter_cons]
    by_cases h : isEnt r = true
    · rw [if_pos h, List.map_cons, List.find?_cons]
      have : isNamed n r = (r.e.name == n) := by unfold isNamed; unfold isEnt at h; rw [h]; rfl
      rw [this]
      cases (r.e.name == n) <;> rfl
    · rw [if_neg h]
      have : isNamed n r = false := by unfold isNamed; unfold isEnt at h; rw [Bool.not_eq_true] at h; rw [h]; rfl
      rw [this]; rfl
end Nm
end Go.Proofs.Ytmlgjmcenjbbeaa
