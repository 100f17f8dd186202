/- Pages are equal, or not; what begun sees. -/
import Derived.Test.YtlgjlhgdpiipbaaV
import Derived.Stop.BytesEq
namespace Go.Proofs.Ytlgjlhgdpiipbaa
open Go.RowKit
set_option maxRecDepth 100000 in
theorem part45 (xs : Array Value) (w : World) : (part 45 xs 0).run Try.prog w = .ok (.agg (xs.extract 0 256)) w := by
  have h : (Go.sizeOf 45).run Try.prog w = .ok 256 w := by kernel_rfl
  simp [part, isAgg, run_underlying Try.underlying45, h, Result.andThen]
set_option maxRecDepth 100000 in
theorem part46 (xs : Array Value) (w : World) : (part 46 xs 256).run Try.prog w = .ok (.agg (xs.extract 256 288)) w := by
  have h : (Go.sizeOf 46).run Try.prog w = .ok 32 w := by kernel_rfl
  simp [part, isAgg, run_underlying Try.underlying46, h, Result.andThen]
theorem beq_take_drop (a b : List UInt8) (n : Nat) (h : a.length = b.length) : ((a.take n == b.take n) && (a.drop n == b.drop n)) = (a == b) := by
  rw [Bool.eq_iff_iff]
  simp only [Bool.and_eq_true, beq_iff_eq]
  constructor
  · rintro ⟨h1, h2⟩
    rw [← List.take_append_drop n a, ← List.take_append_drop n b, h1, h2]
  · rintro rfl; exact ⟨rfl, rfl⟩
set_option maxRecDepth 100000 in
theorem fields48 : (Try.prog.fieldsOf 48).toList = [{ name := "Data", type := 45, offset := 0, embedded := false, tag := "", pkgPath := "", byteOffset := 0 }, { name := "Oob", type := 46, offset := 256, embedded := false, tag := "", pkgPath := "", byteOffset := 256 }] := by
  unfold Program.fieldsOf; rw [Try.underlying48]
theorem sizeOf5 : ∀ w, (Go.sizeOf 5).run Try.prog w = .ok 1 w := fun w => by kernel_rfl
theorem stood48 : Try.prog.stoodInHeld 48 = false := by kernel_rfl
theorem pg_equalIn (a b : List UInt8) (ha : a.length = 288) (hb : b.length = 288) (w : World) : (Op.equalIn 10000 48 (.agg (cellsB a)) (.agg (cellsB b))).run Try.prog w = .ok (a == b) w := by
  rw [run_equalIn_struct w 9999 48 _ _ (by unfold Program.fieldsOf; rw [Try.underlying48]) stood48, fields48]
  have e1 : ∀ l : List UInt8, l.length = 288 → (cellsB l).extract 0 256 = ((l.take 256).map Extern.Stop.cell).toArray := fun l hl => by
    unfold cellsB; simp [List.extract_eq_take_drop]; rfl
  have e2 : ∀ l : List UInt8, l.length = 288 → (cellsB l).extract 256 288 = ((l.drop 256).map Extern.Stop.cell).toArray := fun l hl => by
    unfold cellsB; simp [List.extract_eq_take_drop]; rw [List.take_of_length_le (by simp [hl])]; rfl
  have d : (Op.equalIn 9999 45 (.agg ((a.take 256).map Extern.Stop.cell).toArray) (.agg ((b.take 256).map Extern.Stop.cell).toArray)).run Try.prog w = .ok (a.take 256 == b.take 256) w :=
    run_equalIn_bytes w 9997 45 5 256 Try.underlying45 Try.underlying5 sizeOf5 _ _ (by simp [ha]) (by simp [hb])
  have o : (Op.equalIn 9999 46 (.agg ((a.drop 256).map Extern.Stop.cell).toArray) (.agg ((b.drop 256).map Extern.Stop.cell).toArray)).run Try.prog w = .ok (a.drop 256 == b.drop 256) w :=
    run_equalIn_bytes w 9997 46 5 32 Try.underlying46 Try.underlying5 sizeOf5 _ _ (by simp [ha]) (by simp [hb])
  rw [← beq_take_drop a b 256 (ha.trans hb.symm)]
  simp only [Op.eqFields, Sem.run_bind, Sem.run_ite, part45, part46, e1 a ha, e1 b hb, e2 a ha, e2 b hb, Result.andThen_ok, d, o, ne_eq, String.reduceEq, not_false_eq_true, if_true]
  cases a.take 256 == b.take 256 <;> cases a.drop 256 == b.drop 256 <;> simp [Result.andThen]
theorem pg_eql (a b : List UInt8) (ha : a.length = 288) (hb : b.length = 288) (w : World) : (binOp .eql 48 (pgV a) (pgV b)).run Try.prog w = .ok (.bool (a == b)) w := by
  unfold pgV; rw [run_eql_struct, pg_equalIn a b ha hb]; rfl
theorem pg_neq (a b : List UInt8) (ha : a.length = 288) (hb : b.length = 288) (w : World) : (binOp .neq 48 (pgV a) (pgV b)).run Try.prog w = .ok (.bool (a != b)) w := by
  unfold pgV; rw [run_neq_struct, pg_equalIn a b ha hb]; rfl
theorem guard48 : Try.prog.eqGuardType Try.prog.depth 48 = false := by kernel_rfl
/-- What begun does, plainly. -/
def bSt0 : Chip := freshChip 16 4 [⟨2, 2, [255]⟩] (fun _ => false)
def bSt1 : Chip := (bSt0.program 0 0 (rep 288 1)).2
def bSt2 : Chip := (bSt1.program 0 1 (rep 288 2)).2
def bSt3 : Chip := { bSt2 with off := false }
def bSt4 : Chip := (bSt3.program 0 1 (rep 288 2)).2
theorem b_new : newChip 16 4 [] [⟨2, 2, [255]⟩] = .ok bSt0 := by rfl
theorem b1 : (bSt0.program 0 0 (rep 288 1)).1 = 0 := by decide +kernel
theorem b2 : (bSt1.program 0 1 (rep 288 2)).1 = 8 := by decide +kernel
theorem b3 : bSt3.readAt 0 0 = (rep 288 1, 0) := by decide +kernel
theorem b4 : bSt3.readAt 0 1 = (rep 288 255, 0) := by decide +kernel
theorem b5 : (bSt3.program 0 1 (rep 288 2)).1 = 24 := by decide +kernel
theorem b6 : bSt4.ops = 2 := by decide +kernel
theorem b_ops : bSt0.ops = 0 ∧ bSt1.ops = 1 ∧ bSt3.ops = 2 := by decide +kernel
theorem b_evs : (bSt0.evs.all fun e => decide (e.mask.length ≤ 288)) = true ∧ (bSt1.evs.all fun e => decide (e.mask.length ≤ 288)) = true ∧ (bSt3.evs.all fun e => decide (e.mask.length ≤ 288)) = true := by decide +kernel
theorem fits_of {st : Chip} (h : (st.evs.all fun e => decide (e.mask.length ≤ 288)) = true) : st.fits := fun e he => by
  have := List.all_eq_true.1 h e he
  simpa using this
end Go.Proofs.Ytlgjlhgdpiipbaa
