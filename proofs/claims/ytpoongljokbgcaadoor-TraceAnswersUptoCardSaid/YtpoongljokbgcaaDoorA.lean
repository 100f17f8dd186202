/- Plain words for the trace layer: a byte's two digits, a text as a word, and their like, as Lean functions on lists of bytes. -/
namespace Go.Proofs.YtpoongljokbgcaaDoor.Tr
def dgs : List UInt8 := [48, 49, 50, 51, 52, 53, 54, 55, 56, 57, 97, 98, 99, 100, 101, 102]
def dg (n : Nat) : UInt8 := dgs.getD n 0
def hexB (c : UInt8) : List UInt8 := [dg (c.toNat / 16), dg (c.toNat % 16)]
def bare (c : UInt8) : Bool := !(decide (c.toNat < 33) || decide (126 < c.toNat) || c == 37 || c == 58)
def quo1 (c : UInt8) : List UInt8 := if bare c then [c] else 37 :: hexB c
def quo (l : List UInt8) : List UInt8 := if l = [] then [37] else l.flatMap quo1
/-- a digit's value; 16: it is none -/
def nib (c : UInt8) : Nat := dgs.idxOf c
def unh (a b : UInt8) : Option UInt8 := if nib a < 16 ∧ nib b < 16 then some (UInt8.ofNat (16 * nib a + nib b)) else none
/-- the text of a word, as far as it can be read, and whether all of it could -/
def uq : List UInt8 → List UInt8 × Bool
  | [] => ([], true)
  | c :: r =>
    if c = 37 then
      match r with
      | a :: b :: r' => match unh a b with
        | some d => (d :: (uq r').1, (uq r').2)
        | none => ([], false)
      | _ => ([], false)
    else (c :: (uq r).1, (uq r).2)
def unq (s : List UInt8) : Option (List UInt8) := if quo (uq s).1 = s then some (uq s).1 else none
theorem uq_nil : uq [] = ([], true) := by rw [uq]
theorem uq_bare (c : UInt8) (r : List UInt8) (h : c ≠ 37) : uq (c :: r) = (c :: (uq r).1, (uq r).2) := by rw [uq.eq_def]; simp only [if_neg h]
theorem uq_some (a b d : UInt8) (r : List UInt8) (h : unh a b = some d) : uq (37 :: a :: b :: r) = (d :: (uq r).1, (uq r).2) := by rw [uq.eq_def]; simp only [if_true, h]
theorem uq_none (a b : UInt8) (r : List UInt8) (h : unh a b = none) : uq (37 :: a :: b :: r) = ([], false) := by rw [uq.eq_def]; simp only [if_true, h]
theorem uq_short (r : List UInt8) (h : r.length < 2) : uq (37 :: r) = ([], false) := by
  match r, h with
  | [], _ => rw [uq.eq_def]; simp only [if_true]
  | [_], _ => rw [uq.eq_def]; simp only [if_true]
theorem nib_dg : ∀ n, n < 16 → nib (dg n) = n := by decide
theorem unh_hexB (c : UInt8) : unh (dg (c.toNat / 16)) (dg (c.toNat % 16)) = some c := by
  have h : c.toNat < 256 := c.toNat_lt
  unfold unh
  rw [nib_dg _ (by omega), nib_dg _ (by omega), if_pos (by omega)]
  congr 1
  rw [show 16 * (c.toNat / 16) + c.toNat % 16 = c.toNat from by omega]
  simp
theorem bare_37 (c : UInt8) (h : bare c = true) : c ≠ 37 := by
  intro e; subst e; revert h; decide
theorem uq_quo1 (c : UInt8) (r : List UInt8) : uq (quo1 c ++ r) = (c :: (uq r).1, (uq r).2) := by
  unfold quo1
  split
  · rename_i h; exact uq_bare c r (bare_37 c h)
  · exact uq_some _ _ c r (unh_hexB c)
theorem uq_flat (l : List UInt8) : uq (l.flatMap quo1) = (l, true) := by
  induction l with
  | nil => exact uq_nil
  | cons c l ih => rw [List.flatMap_cons, uq_quo1, ih]
theorem unq_quo (l : List UInt8) : unq (quo l) = some l := by
  unfold unq
  by_cases h : l = []
  · subst h; decide
  · have : (uq (quo l)).1 = l := by unfold quo; rw [if_neg h, uq_flat]
    rw [this, if_pos rfl]
end Go.Proofs.YtpoongljokbgcaaDoor.Tr
