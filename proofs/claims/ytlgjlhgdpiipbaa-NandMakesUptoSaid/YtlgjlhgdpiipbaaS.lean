/- Strings as lists of bytes: laws of the walk on 'S l'. -/
import Derived.WalkKit
import Derived.WalkSpells
import Derived.WalkLawsBesides
import Derived.Lib.Hide
import Derived.IntWalk
import Derived.Laws.BitsAllLaws
namespace Go.Proofs.Ytlgjlhgdpiipbaa
open Go.RowKit
def S (l : List UInt8) : ByteArray := ⟨l.toArray⟩
theorem S_data (l : List UInt8) : (S l).data.toList = l := rfl
theorem S_of (s : ByteArray) : s = S s.data.toList := by cases s; rfl
@[go_sem, simp] theorem S_size (l : List UInt8) : (S l).size = l.length := by simp [S, ByteArray.size]
@[go_sem, simp] theorem S_toList (l : List UInt8) : (S l).toList = l := by
  rw [ByteArray.toList_eq]; rfl
@[go_sem, simp] theorem S_append (a b : List UInt8) : S a ++ S b = S (a ++ b) := by
  show (⟨a.toArray⟩ : ByteArray) ++ ⟨b.toArray⟩ = ⟨(a ++ b).toArray⟩
  rw [ByteArray.ext_iff]; simp
theorem S_extract (l : List UInt8) (i j : Nat) : (S l).extract i j = S ((l.take j).drop i) := by
  rw [ByteArray.ext_iff]
  show ((⟨l.toArray⟩ : ByteArray).extract i j).data = ((l.take j).drop i).toArray
  simp [List.drop_take]
section
variable {P : Program} (w : World)
def outOf (s : Sem Value) (P : Program) (w : World) : Result Value := s.run P w
@[go_sem ↓] theorem run_index_S (t : TypeId) (l : List UInt8) (k : IntKind) (i : Int) (h : P.underlying t = some .string) :
    (Instr.index t (.string (S l)) (.int k i)).run P w = if 0 ≤ i ∧ i < l.length then .ok (.int .u8 (l.getD i.toNat 0).toNat) w else outOf (Instr.index t (.string (S l)) (.int k i)) P w := by
  by_cases hi : 0 ≤ i ∧ i < l.length
  · rw [if_pos hi, run_index_string w t _ k i h, dif_pos (by simp; omega)]
    congr 3
    have hi : i.toNat < l.length := by omega
    simp only [List.getD_eq_getElem?_getD, List.getElem?_eq_getElem hi, Option.getD_some]
    rfl
  · rw [if_neg hi]; rfl
@[go_sem ↓] theorem run_slice_S_l (t : TypeId) (l : List UInt8) (k : IntKind) (i : Int) (h : P.underlying t = some .string) :
    (Instr.slice t (.string (S l)) (some (.int k i)) none none).run P w = if 0 ≤ i ∧ i ≤ l.length then .ok (.string (S (l.drop i.toNat))) w else outOf (Instr.slice t (.string (S l)) (some (.int k i)) none none) P w := by
  by_cases hi : 0 ≤ i ∧ i ≤ l.length
  · rw [if_pos hi, run_slice_string_l (P := P) w t (S l) h k i hi.1 (by simp; omega), S_extract]; simp
  · rw [if_neg hi]; rfl
@[go_sem ↓] theorem run_slice_S_h (t : TypeId) (l : List UInt8) (k : IntKind) (j : Int) (h : P.underlying t = some .string) :
    (Instr.slice t (.string (S l)) none (some (.int k j)) none).run P w = if 0 ≤ j ∧ j ≤ l.length then .ok (.string (S (l.take j.toNat))) w else outOf (Instr.slice t (.string (S l)) none (some (.int k j)) none) P w := by
  by_cases hi : 0 ≤ j ∧ j ≤ l.length
  · rw [if_pos hi, run_slice_string_h (P := P) w t (S l) h k j hi.1 (by simp; omega), S_extract]; simp
  · rw [if_neg hi]; rfl
@[go_sem ↓] theorem run_slice_S (t : TypeId) (l : List UInt8) (k k' : IntKind) (i j : Int) (h : P.underlying t = some .string) :
    (Instr.slice t (.string (S l)) (some (.int k i)) (some (.int k' j)) none).run P w = if 0 ≤ i ∧ i ≤ j ∧ j ≤ l.length then .ok (.string (S ((l.take j.toNat).drop i.toNat))) w else outOf (Instr.slice t (.string (S l)) (some (.int k i)) (some (.int k' j)) none) P w := by
  by_cases hi : 0 ≤ i ∧ i ≤ j ∧ j ≤ l.length
  · rw [if_pos hi, run_slice_string_if w t (S l) k k' i j h, if_pos (by simp; omega), if_pos (by omega), S_extract]
  · rw [if_neg hi]; rfl
@[go_sem ↓ high] theorem run_index_S0 (t : TypeId) (c : UInt8) (l : List UInt8) (k : IntKind) (h : P.underlying t = some .string) :
    (Instr.index t (.string (S (c :: l))) (.int k 0)).run P w = .ok (.int .u8 c.toNat) w := by
  rw [run_index_S w t _ k 0 h, if_pos ⟨by omega, by (first | (simp; done) | (simp; omega))⟩]; rfl
@[go_sem ↓ high] theorem run_index_S1 (t : TypeId) (b c : UInt8) (l : List UInt8) (k : IntKind) (h : P.underlying t = some .string) :
    (Instr.index t (.string (S (b :: c :: l))) (.int k 1)).run P w = .ok (.int .u8 c.toNat) w := by
  rw [run_index_S w t _ k 1 h, if_pos ⟨by omega, by (first | (simp; done) | (simp; omega))⟩]; rfl
@[go_sem ↓ high] theorem run_slice_S1 (t : TypeId) (c : UInt8) (l : List UInt8) (k : IntKind) (h : P.underlying t = some .string) :
    (Instr.slice t (.string (S (c :: l))) (some (.int k 1)) none none).run P w = .ok (.string (S l)) w := by
  rw [run_slice_S_l w t _ k 1 h, if_pos ⟨by omega, by (first | (simp; done) | (simp; omega))⟩]; rfl
@[go_sem ↓ high] theorem run_slice_S2 (t : TypeId) (b c : UInt8) (l : List UInt8) (k : IntKind) (h : P.underlying t = some .string) :
    (Instr.slice t (.string (S (b :: c :: l))) (some (.int k 2)) none none).run P w = .ok (.string (S l)) w := by
  rw [run_slice_S_l w t _ k 2 h, if_pos ⟨by omega, by (first | (simp; done) | (simp; omega))⟩]; rfl
@[go_sem ↓ high] theorem run_slice_S3 (t : TypeId) (a b c : UInt8) (l : List UInt8) (k : IntKind) (h : P.underlying t = some .string) :
    (Instr.slice t (.string (S (a :: b :: c :: l))) (some (.int k 3)) none none).run P w = .ok (.string (S l)) w := by
  rw [run_slice_S_l w t _ k 3 h, if_pos ⟨by omega, by (first | (simp; done) | (simp; omega))⟩]; rfl
end
theorem byte_ne (c d : UInt8) (h : c ≠ d) : ((c.toNat : Int) == (d.toNat : Int)) = false := by
  rw [beq_eq_false_iff_ne]; intro e; exact h (UInt8.toNat_inj.1 (by omega))
theorem byte_eq (c d : UInt8) (h : c = d) : ((c.toNat : Int) == (d.toNat : Int)) = true := by subst h; simp
theorem byte_bne (c d : UInt8) (h : c ≠ d) : ((c.toNat : Int) != (d.toNat : Int)) = true := by
  rw [bne_iff_ne]; intro e; exact h (UInt8.toNat_inj.1 (by omega))
end Go.Proofs.Ytlgjlhgdpiipbaa
