/- seal.Mask and the reference's Mask. -/
import Derived.Test.YtlgjlhgdpiipbaaD
namespace Go.Proofs.Ytlgjlhgdpiipbaa
open Go.RowKit
/-- Bytes in which those bits are 1, too, that a mask has. -/
def mask (l m : List UInt8) : List UInt8 := if m = [] then l else l.mapIdx fun i c => c ||| m.getD (i % m.length) 0
theorem mask_len (l m : List UInt8) : (mask l m).length = l.length := by unfold mask; split <;> simp
theorem mask_nil (l : List UInt8) : mask l [] = l := if_pos rfl
/-- The head masked, the rest as it was. -/
def maskTo (l m : List UInt8) (k : Nat) : List UInt8 := (mask l m).take k ++ l.drop k
theorem maskTo_len (l m : List UInt8) (k : Nat) (h : k ≤ l.length) : (maskTo l m k).length = l.length := by unfold maskTo; rw [List.length_append, List.length_take, List.length_drop, mask_len]; omega
theorem maskTo_zero (l m : List UInt8) : maskTo l m 0 = l := by unfold maskTo; simp
theorem maskTo_all (l m : List UInt8) : maskTo l m l.length = mask l m := by
  unfold maskTo; rw [List.drop_length, List.append_nil, List.take_of_length_le (by rw [mask_len]; exact Nat.le_refl _)]
theorem maskTo_get (l m : List UInt8) (k : Nat) (h : k < l.length) (h' : k < (maskTo l m k).length) : (maskTo l m k)[k] = l[k] := by
  have h1 : ((mask l m).take k).length = k := by rw [List.length_take, mask_len]; omega
  have : (maskTo l m k)[k]? = l[k]? := by
    unfold maskTo
    rw [List.getElem?_append_right (by omega), h1, Nat.sub_self, List.getElem?_drop]
    rfl
  rw [List.getElem?_eq_getElem h', List.getElem?_eq_getElem h] at this
  exact Option.some.inj this
theorem mask_get (l m : List UInt8) (k : Nat) (h : k < l.length) (hm : m ≠ []) (h' : k < (mask l m).length) : (mask l m)[k] = l[k] ||| m.getD (k % m.length) 0 := by
  unfold mask
  simp [hm]
theorem maskTo_set (l m : List UInt8) (k : Nat) (h : k < l.length) (hm : m ≠ []) : (maskTo l m k).set k (l[k] ||| m.getD (k % m.length) 0) = maskTo l m (k + 1) := by
  have hk : k < (mask l m).length := by rw [mask_len]; exact h
  have h1 : ((mask l m).take k).length = k := by rw [List.length_take]; omega
  unfold maskTo
  rw [List.set_append, if_neg (by omega), h1, Nat.sub_self, List.drop_eq_getElem_cons h, List.set_cons_zero, List.take_succ_eq_append_getElem hk, mask_get l m k h hm hk]
  simp
theorem maskTo_nil (l : List UInt8) (k : Nat) : maskTo l [] k = l := by unfold maskTo; rw [mask_nil, List.take_append_drop]
theorem or_u8 (c d : UInt8) : bits .or .u8 (c.toNat : Int) (d.toNat : Int) = ((c ||| d).toNat : Int) := by
  have h1 := c.toNat_lt
  have h2 := d.toNat_lt
  have h3 := (c ||| d).toNat_lt
  show IntKind.u8.wrap ((BitVec.ofInt 8 (c.toNat : Int) ||| BitVec.ofInt 8 (d.toNat : Int)).toNat : Int) = _
  rw [BitVec.toNat_or, BitVec.toNat_ofInt, BitVec.toNat_ofInt, UInt8.toNat_or]
  rw [UInt8.toNat_or] at h3
  have e1 : ((c.toNat : Int) % (2 ^ 8 : Nat)).toNat = c.toNat := by omega
  have e2 : ((d.toNat : Int) % (2 ^ 8 : Nat)).toNat = d.toNat := by omega
  rw [e1, e2]
  have hw : ∀ x : Int, 0 ≤ x → x < 256 → IntKind.u8.wrap x = x := fun x h0 h1 => by
    simp [IntKind.wrap, IntKind.bits, IntKind.signed]
    omega
  exact hw _ (by omega) (by omega)
/-- Bytes of the call's own. -/
def OwnRes (bs : List UInt8) (w : World) (e : Ending) (w' : World) : Prop := ∃ g cap, e = .returned (.slice (some ⟨g, 0, none⟩) bs.length cap) ∧ w.heap.size ≤ g ∧ OwnB w' g cap bs ∧ Below w.heap.size w w'
end Go.Proofs.Ytlgjlhgdpiipbaa
