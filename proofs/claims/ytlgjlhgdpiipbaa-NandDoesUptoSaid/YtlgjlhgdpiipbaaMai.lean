import Derived.Test.YtlgjlhgdpiipbaaMah
import Derived.Stop.BytesEq
import Derived.Great.BuildSlice
import Derived.Great.FillDense
import Derived.RangeFuncNested
import Derived.RangeFuncBound
import Derived.RangeFuncCalls
import Derived.RangeFuncLeaves
import Derived.Shelf.Abstract
import Derived.Shelf.RegionOpen
import Derived.WalkKit
import Derived.OwnWalkIn
import Derived.TacticsInMore
import Derived.LoopNIn
import Derived.LoopIn
import Derived.Maps.OwnIn
import Derived.BigRegionIn
/- Pages are equal, or not; what begun sees. -/
namespace Go.Proofs.Ytlgjlhgdpiipbaa
open Go.RowKit
set_option maxRecDepth 100000 in
theorem part45 (xs : Array Value) (w : World) : (part 45 xs 0).run Try.prog w = .ok (.agg (xs.extract 0 256)) w := by
  have h : (Go.sizeOf 45).run Try.prog w = .ok 256 w := by kernel_rfl
  simp [part, isAgg, run_underlying Try.underlying45, h, Result.andThen]
set_option maxRecDepth 100000 in
theorem part46 (xs : Array Value) (w : World) : (part 46 xs 256).run Try.prog w = .ok (.agg (xs.extract 256 288)) w := by
  have h : (Go.sizeOf 46).run Try.prog w = .ok 32 w := by kernel_rfl
  simp [part, isAgg, run_underlying Try.underlying46, h, Result.andThen]
theorem beq_take_drop (a b : List UInt8) (n : Nat) (h : a.length = b.length) : ((a.take n == b.take n) && (a.drop n == b.drop n)) = (a == b) := by
  rw [Bool.eq_iff_iff]
  simp only [Bool.and_eq_true, beq_iff_eq]
  constructor
  · rintro ⟨h1, h2⟩
    rw [← List.take_append_drop n a, ← List.take_append_drop n b, h1, h2]
  · rintro rfl; exact ⟨rfl, rfl⟩
set_option maxRecDepth 100000 in
theorem fields48 : (Try.prog.fieldsOf 48).toList = [{ name := "Data", type := 45, offset := 0, embedded := false, tag := "", pkgPath := "", byteOffset := 0 }, { name := "Oob", type := 46, offset := 256, embedded := false, tag := "", pkgPath := "", byteOffset := 256 }] := by
  unfold Program.fieldsOf; rw [Try.underlying48]
theorem sizeOf5 : ∀ w, (Go.sizeOf 5).run Try.prog w = .ok 1 w := fun w => by kernel_rfl
theorem stood48 : Try.prog.stoodInHeld 48 = false := by kernel_rfl
theorem pg_equalIn (a b : List UInt8) (ha : a.length = 288) (hb : b.length = 288) (w : World) : (Op.equalIn 10000 48 (.agg (cellsB a)) (.agg (cellsB b))).run Try.prog w = .ok (a == b) w := by
  rw [run_equalIn_struct w 9999 48 _ _ (by unfold Program.fieldsOf; rw [Try.underlying48]) stood48, fields48]
  have e1 : ∀ l : List UInt8, l.length = 288 → (cellsB l).extract 0 256 = ((l.take 256).map Extern.Stop.cell).toArray := fun l hl => by
    unfold cellsB; simp [List.extract_eq_take_drop]; rfl
  have e2 : ∀ l : List UInt8, l.length = 288 → (cellsB l).extract 256 288 = ((l.drop 256).map Extern.Stop.cell).toArray := fun l hl => by
    unfold cellsB; simp [List.extract_eq_take_drop]; rw [List.take_of_length_le (by simp [hl])]; rfl
  have d : (Op.equalIn 9999 45 (.agg ((a.take 256).map Extern.Stop.cell).toArray) (.agg ((b.take 256).map Extern.Stop.cell).toArray)).run Try.prog w = .ok (a.take 256 == b.take 256) w :=
    run_equalIn_bytes w 9997 45 5 256 Try.underlying45 Try.underlying5 sizeOf5 _ _ (by simp [ha]) (by simp [hb])
  have o : (Op.equalIn 9999 46 (.agg ((a.drop 256).map Extern.Stop.cell).toArray) (.agg ((b.drop 256).map Extern.Stop.cell).toArray)).run Try.prog w = .ok (a.drop 256 == b.drop 256) w :=
    run_equalIn_bytes w 9997 46 5 32 Try.underlying46 Try.underlying5 sizeOf5 _ _ (by simp [ha]) (by simp [hb])
  rw [← beq_take_drop a b 256 (ha.trans hb.symm)]
  simp only [Op.eqFields, Sem.run_bind, Sem.run_ite, part45, part46, e1 a ha, e1 b hb, e2 a ha, e2 b hb, Result.andThen_ok, d, o, ne_eq, String.reduceEq, not_false_eq_true, if_true]
  cases a.take 256 == b.take 256 <;> cases a.drop 256 == b.drop 256 <;> simp [Result.andThen]
theorem pg_eql (a b : List UInt8) (ha : a.length = 288) (hb : b.length = 288) (w : World) : (binOp .eql 48 (pgV a) (pgV b)).run Try.prog w = .ok (.bool (a == b)) w := by
  unfold pgV; rw [run_eql_struct, pg_equalIn a b ha hb]; rfl
theorem pg_neq (a b : List UInt8) (ha : a.length = 288) (hb : b.length = 288) (w : World) : (binOp .neq 48 (pgV a) (pgV b)).run Try.prog w = .ok (.bool (a != b)) w := by
  unfold pgV; rw [run_neq_struct, pg_equalIn a b ha hb]; rfl
theorem guard48 : Try.prog.eqGuardType Try.prog.depth 48 = false := by kernel_rfl
/-- What begun does, plainly. -/
def bSt0 : Chip := freshChip 16 4 [⟨2, 2, [255]⟩] (fun _ => false)
def bSt1 : Chip := (bSt0.program 0 0 (rep 288 1)).2
def bSt2 : Chip := (bSt1.program 0 1 (rep 288 2)).2
def bSt3 : Chip := { bSt2 with off := false }
def bSt4 : Chip := (bSt3.program 0 1 (rep 288 2)).2
theorem b_new : newChip 16 4 [] [⟨2, 2, [255]⟩] = .ok bSt0 := by rfl
theorem b1 : (bSt0.program 0 0 (rep 288 1)).1 = 0 := by decide +kernel
theorem b2 : (bSt1.program 0 1 (rep 288 2)).1 = 8 := by decide +kernel
theorem b3 : bSt3.readAt 0 0 = (rep 288 1, 0) := by decide +kernel
theorem b4 : bSt3.readAt 0 1 = (rep 288 255, 0) := by decide +kernel
theorem b5 : (bSt3.program 0 1 (rep 288 2)).1 = 24 := by decide +kernel
theorem b6 : bSt4.ops = 2 := by decide +kernel
theorem b_ops : bSt0.ops = 0 ∧ bSt1.ops = 1 ∧ bSt3.ops = 2 := by decide +kernel
theorem b_evs : (bSt0.evs.all fun e => decide (e.mask.length ≤ 288)) = true ∧ (bSt1.evs.all fun e => decide (e.mask.length ≤ 288)) = true ∧ (bSt3.evs.all fun e => decide (e.mask.length ≤ 288)) = true := by decide +kernel
theorem fits_of {st : Chip} (h : (st.evs.all fun e => decide (e.mask.length ≤ 288)) = true) : st.fits := fun e he => by
  have := List.all_eq_true.1 h e he
  simpa using this
end Go.Proofs.Ytlgjlhgdpiipbaa
/- What a law knows of a chip: it has it, beside boxes of its own. -/
namespace Go.Proofs.Ytlgjlhgdpiipbaa
open Go.RowKit
/-- In W, behind w: a chip in memory that is new since w; X: old boxes of the law's own, apart from the chip. -/
def Has (w W : World) (X : Nat → Prop) (c : Nat) (st : Chip) : Prop :=
  ∃ Fm Fr L, ChipR W Fm Fr c st L ∧ (∀ b, Fm b ∨ Fr b → w.heap.size ≤ b) ∧ (∀ b, X b → b < W.heap.size ∧ ¬ Fm b ∧ ¬ Fr b) ∧ Below w.heap.size w W
section
variable {w W W' : World} {X Y : Nat → Prop} {c : Nat} {st : Chip}
theorem Has.bel (h : Has w W X c st) : Below w.heap.size w W := by obtain ⟨_, _, _, _, _, _, h⟩ := h; exact h
theorem Has.bnd (h : Has w W X c st) : 0 < st.bn ∧ st.bn ≤ 256 ∧ 0 < st.pn ∧ st.pn ≤ 32 := by obtain ⟨_, _, _, h, _⟩ := h; exact h.bnd
theorem Has.below (h : Has w W X c st) (hb : Below W.heap.size W W') : Has w W' X c st := by
  obtain ⟨Fm, Fr, L, hC, hge, hX, hw⟩ := h
  exact ⟨Fm, Fr, L, hC.below hb, hge, fun b hx => ⟨Nat.lt_of_lt_of_le (hX b hx).1 hb.size, (hX b hx).2⟩, hw.trans (hb.mono hw.size)⟩
theorem Has.add (h : Has w W X c st) (hb : Below W.heap.size W W') (hY : ∀ b, Y b → X b ∨ (W.heap.size ≤ b ∧ b < W'.heap.size)) : Has w W' Y c st := by
  obtain ⟨Fm, Fr, L, hC, hge, hX, hw⟩ := h
  refine ⟨Fm, Fr, L, hC.below hb, hge, fun b hy => ?_, hw.trans (hb.mono hw.size)⟩
  rcases hY b hy with hx | ⟨h1, h2⟩
  · exact ⟨Nat.lt_of_lt_of_le (hX b hx).1 hb.size, (hX b hx).2⟩
  · exact ⟨h2, hC.new h1⟩
theorem Has.less (h : Has w W X c st) (hY : ∀ b, Y b → X b) : Has w W Y c st := h.add (Below.refl _ _) (fun b hb => .inl (hY b hb))
theorem Has.own (h : Has w W X c st) {b : Nat} (hx : X b) (hb : w.heap.size ≤ b) (hg : W.grownBy W' (some b)) : Has w W' X c st := by
  obtain ⟨Fm, Fr, L, hC, hge, hX, hw⟩ := h
  exact ⟨Fm, Fr, L, hC.grown_out hg (hX b hx).2, hge, fun a ha => ⟨Nat.lt_of_lt_of_le (hX a ha).1 hg.size, (hX a ha).2⟩, hw.grown hg hw.size (fun k e => by cases e; exact hb)⟩
theorem Has.set (h : Has w W X c st) {b : Nat} (hx : X b) (hb : w.heap.size ≤ b) (j : Nat) (v : Value) : Has w (W.setCell ⟨b, j, none⟩ v) X c st := h.own hx hb (grown_set1 W b j v)
end
/-- What a call of the chip leaves to a law. -/
def HasRes (w W : World) (X : Nat → Prop) (c : Nat) (v : Value) (st' : Chip) (e : Ending) (W' : World) : Prop := e = .returned v ∧ Has w W' X c st' ∧ Same X W W'
section
variable {w W : World} {X : Nat → Prop} {c : Nat} {st : Chip}
theorem opRes_has {Fm Fr : Nat → Prop} {L : Lay} {r : Int × Chip} {e : Ending} {W' : World} (hC : ChipR W Fm Fr c st L) (hge : ∀ b, Fm b ∨ Fr b → w.heap.size ≤ b) (hX : ∀ b, X b → b < W.heap.size ∧ ¬ Fm b ∧ ¬ Fr b) (hw : Below w.heap.size w W)
    {Fm' : Nat → Prop} {L' : Lay} {st' : Chip} (hC' : ChipR W' Fm' Fr c st' L') (hk : Kept Fm W W') (hF : ∀ x, Fm' x → Fm x ∨ W.heap.size ≤ x) : Has w W' X c st' ∧ Same X W W' := by
  refine ⟨⟨Fm', Fr, L', hC', fun b hb => ?_, fun b hb => ⟨Nat.lt_of_lt_of_le (hX b hb).1 hk.size, fun hf => ?_, (hX b hb).2.2⟩, hw.trans (hk.below (fun b hb => hge b (.inl hb)) hw.size)⟩, hk.same (fun b hb => ⟨(hX b hb).1, (hX b hb).2.1⟩)⟩
  · rcases hb with hb | hb
    · rcases hF b hb with h | h
      · exact hge b (.inl h)
      · exact Nat.le_trans hw.size h
    · exact hge b (.inr hb)
  · rcases hF b hf with h | h
    · exact (hX b hb).2.1 h
    · have := (hX b hb).1; omega
theorem has_program (h : Has w W X c st) (hf : st.fits) (ho : st.ops < 1000000) (n page : Int) (pg : List UInt8) (hp : pg.length = 288) :
    Calls Try.prog 27 #[.pointer (some ⟨c, 0, none⟩), .int .i64 n, .int .i64 page, pgV pg] W (HasRes w W X c (.int .i64 (st.program n page pg).1) (st.program n page pg).2) := by
  obtain ⟨Fm, Fr, L, hC, hge, hX, hw⟩ := h
  refine (program_any hC hf ho n page pg hp).mono ?_
  rintro e W' ⟨Fm', L', rfl, h1, h2, h3⟩
  exact ⟨rfl, opRes_has (e := .returned .nilFunc) (r := (0, st)) hC hge hX hw h1 h2 h3⟩
theorem has_erase (h : Has w W X c st) (hf : st.fits) (ho : st.ops < 1000000) (hwe : ∀ i, i < st.bn → 0 ≤ (st.blk i).look.wear ∧ (st.blk i).look.wear < 1000000) (n : Int) :
    Calls Try.prog 26 #[.pointer (some ⟨c, 0, none⟩), .int .i64 n] W (HasRes w W X c (.int .i64 (st.erase n).1) (st.erase n).2) := by
  obtain ⟨Fm, Fr, L, hC, hge, hX, hw⟩ := h
  refine (erase_any hC hf ho hwe n).mono ?_
  rintro e W' ⟨Fm', L', rfl, h1, h2, h3⟩
  exact ⟨rfl, opRes_has (e := .returned .nilFunc) (r := (0, st)) hC hge hX hw h1 h2 h3⟩
theorem has_restart (h : Has w W X c st) : Calls Try.prog 24 #[.pointer (some ⟨c, 0, none⟩)] W (HasRes w W X c (.int .i64 0) { st with off := false }) := by
  obtain ⟨Fm, Fr, L, hC, hge, hX, hw⟩ := h
  refine (restart_any hC).mono ?_
  rintro e W' ⟨rfl, h1, h2⟩
  exact ⟨rfl, opRes_has (e := .returned .nilFunc) (r := (0, st)) hC hge hX hw h1 h2 (fun x hx => .inl hx)⟩
theorem has_does (h : Has w W X c st) (hf : st.fits) (ho : st.ops < 1000000) (hwe : ∀ i, i < st.bn → 0 ≤ (st.blk i).look.wear ∧ (st.blk i).look.wear < 1000000) (o : Cl) :
    Calls Try.prog 17 #[.pointer (some ⟨c, 0, none⟩), clV o] W (HasRes w W X c (.tuple #[pgV (st.does o).1.1, .int .i64 (st.does o).1.2]) (st.does o).2) := by
  obtain ⟨Fm, Fr, L, hC, hge, hX, hw⟩ := h
  refine (does_any hC hf ho hwe o).mono ?_
  rintro e W' ⟨Fm', L', rfl, h1, h2, h3⟩
  exact ⟨rfl, opRes_has (e := .returned .nilFunc) (r := (0, st)) hC hge hX hw h1 h2 h3⟩
theorem has_read (h : Has w W X c st) (n page : Int) : Calls Try.prog 29 #[.pointer (some ⟨c, 0, none⟩), .int .i64 n, .int .i64 page] W fun e W' => e = .returned (.tuple #[pgV (st.readAt n page).1, .int .i64 (st.readAt n page).2]) ∧ Below W.heap.size W W' := by
  obtain ⟨Fm, Fr, L, hC, hge, hX, hw⟩ := h; exact read_any hC n page
theorem has_look (h : Has w W X c st) (n : Int) : Calls Try.prog 15 #[.pointer (some ⟨c, 0, none⟩), .int .i64 n] W fun e W' => e = .returned (.tuple #[lookV (st.lookAt n).1, .int .i64 (st.lookAt n).2]) ∧ Below W.heap.size W W' := by
  obtain ⟨Fm, Fr, L, hC, hge, hX, hw⟩ := h; exact look_any hC n
theorem has_ops (h : Has w W X c st) : Calls Try.prog 18 #[.pointer (some ⟨c, 0, none⟩)] W (ValQ (.int .i64 st.ops) W) := by
  obtain ⟨Fm, Fr, L, hC, hge, hX, hw⟩ := h; exact ops_any hC
theorem has_on (h : Has w W X c st) : Calls Try.prog 16 #[.pointer (some ⟨c, 0, none⟩)] W (ValQ (.bool (!st.off)) W) := by
  obtain ⟨Fm, Fr, L, hC, hge, hX, hw⟩ := h; exact on_any hC
theorem has_geo (h : Has w W X c st) : Calls Try.prog 13 #[.pointer (some ⟨c, 0, none⟩)] W fun e W' => e = .returned (.agg #[.int .i64 st.bn, .int .i64 st.pn]) ∧ Below W.heap.size W W' := by
  obtain ⟨Fm, Fr, L, hC, hge, hX, hw⟩ := h; exact geo_any hC
end
/-- New, to a law. -/
def HasNew (w W : World) (r : Except Int Chip) (e : Ending) (W' : World) : Prop :=
  Below W.heap.size W W' ∧ match r with
  | .error n => e = .returned (.tuple #[.pointer none, .int .i64 n])
  | .ok st => ∃ c, e = .returned (.tuple #[.pointer (some ⟨c, 0, none⟩), .int .i64 0]) ∧ ∀ X : Nat → Prop, (∀ b, X b → b < W.heap.size) → Has w W' X c st
theorem has_new (bn pn : Int) (bad : List Int) (evs : List Ev) (bv ev : Value) (w W : World) (hW : Below w.heap.size w W) (hbl : bad.length ≤ 9223372036854775807) (hel : evs.length ≤ 1048576) (hbad : IntS W W.heap.size bv bad) (hev : EvS W (fun b => b < W.heap.size) ev evs) :
    Calls Try.prog 10 #[.agg #[.int .i64 bn, .int .i64 pn], bv, ev] W (HasNew w W (newChip bn pn bad evs)) := by
  refine (new_any bn pn bad evs bv ev W hbl hel hbad hev).mono ?_
  intro e W' h
  unfold NewRes at h
  unfold HasNew
  cases hr : newChip bn pn bad evs with
  | error n => rw [hr] at h; exact ⟨h.2, h.1⟩
  | ok st =>
    rw [hr] at h
    obtain ⟨c, Fm, Fr, L, rfl, hC, hge, hb⟩ := h
    exact ⟨hb, c, rfl, fun X hX => ⟨Fm, Fr, L, hC, fun b hf => Nat.le_trans hW.size (hge b hf), fun b hx => ⟨Nat.lt_of_lt_of_le (hX b hx) hb.size, fun hf => by have := hge b (.inl hf); have := hX b hx; omega, fun hf => by have := hge b (.inr hf); have := hX b hx; omega⟩, hW.trans (hb.mono hW.size)⟩⟩
end Go.Proofs.Ytlgjlhgdpiipbaa
/- What calls make of a chip, plainly. -/
namespace Go.Proofs.Ytlgjlhgdpiipbaa
open Go.RowKit
theorem asks_off {st : Chip} {n p : Int} (h : st.off = true) : st.asks n p = 8 := by unfold Chip.asks; rw [if_pos h]
theorem asks_on {st : Chip} {n p : Int} (h : st.off = false) : st.asks n p = 0 ∨ st.asks n p = 22 := by
  unfold Chip.asks
  rw [if_neg (by rw [h]; decide)]
  split
  · exact .inr rfl
  · exact .inl rfl
theorem nextEv_ops (st : Chip) : st.nextEv.2.ops = st.ops + 1 ∧ st.nextEv.2.off = st.off := by
  unfold Chip.nextEv
  rcases st.evs with _ | ⟨e, r⟩
  · exact ⟨rfl, rfl⟩
  · simp only
    split <;> exact ⟨rfl, rfl⟩
theorem nextEv_evs (st : Chip) (h : st.fits) : st.nextEv.2.fits := by
  unfold Chip.nextEv Chip.fits at *
  rcases he : st.evs with _ | ⟨e, r⟩
  · intro e h'; rw [he] at h; exact h e h'
  · simp only
    rw [he] at h
    split
    · intro e' h'; exact h e' (List.mem_cons_of_mem _ h')
    · intro e' h'
      exact h e' (by simpa [he] using h')
/-- How an operation ends. -/
theorem ends_law (st : Chip) (k : Int) : (st.ends k).2.2.blk = st.blk ∧ (st.ends k).2.2.bn = st.bn ∧ (st.ends k).2.2.pn = st.pn ∧ (st.ends k).2.2.evs = st.evs ∧ (st.ends k).2.2.ops = st.ops ∧
    (((st.ends k).1 = 0 ∧ (st.ends k).2.2.off = st.off ∧ k ≠ 2 ∧ k ≠ 1) ∨ ((st.ends k).1 = 25 ∧ (st.ends k).2.2.off = st.off ∧ k = 1) ∨ ((st.ends k).1 = 8 ∧ (st.ends k).2.2.off = true ∧ k = 2)) := by
  unfold Chip.ends
  split
  · rename_i h; exact ⟨rfl, rfl, rfl, rfl, rfl, .inr (.inr ⟨rfl, rfl, h⟩)⟩
  · split
    · rename_i h; exact ⟨rfl, rfl, rfl, rfl, rfl, .inr (.inl ⟨rfl, rfl, h⟩)⟩
    · rename_i h h'; exact ⟨rfl, rfl, rfl, rfl, rfl, .inl ⟨rfl, rfl, h, h'⟩⟩
/-- An operation took place, on a block. -/
structure Took (st st' : Chip) (i : Nat) (a : Int) : Prop where
  lt : i < st.bn
  on : st.off = false
  bn : st'.bn = st.bn
  pn : st'.pn = st.pn
  ops : st'.ops = st.ops + 1
  fits : st.fits → st'.fits
  other : ∀ x, x ≠ i → st'.blk x = st.blk x
  good : (st.blk i).look.bad = false
  ans : (a = 0 ∧ st'.off = false) ∨ (a = 25 ∧ st'.off = false) ∨ (a = 8 ∧ st'.off = true)
/-- An operation was refused. -/
def Refused (st : Chip) (a : Int) : Prop := (a = 8 ∧ st.off = true) ∨ (st.off = false ∧ (a = 22 ∨ a = 23 ∨ a = 24))
theorem program_law (st : Chip) (n page : Int) (pg : List UInt8) :
    ((st.program n page pg).2 = st ∧ Refused st (st.program n page pg).1) ∨
    ∃ i j : Nat, n = i ∧ page = j ∧ j < st.pn ∧ (st.blk i).look.next ≤ j ∧ Took st (st.program n page pg).2 i (st.program n page pg).1 ∧
      ((st.program n page pg).2.blk i).look = { (st.blk i).look with next := (j : Int) + 1 } ∧
      ((st.program n page pg).2.blk i).pages = fun x => if x = j then mask pg st.nextEv.1.mask else (st.blk i).pages x := by
  by_cases h0 : st.asks n page = 0
  case neg =>
    left
    have e : st.program n page pg = (st.asks n page, st) := by unfold Chip.program; rw [if_pos h0]
    rw [e]
    refine ⟨rfl, ?_⟩
    rcases ho : st.off with _ | _
    · rcases asks_on (n := n) (p := page) ho with h | h
      · exact absurd h h0
      · exact .inr ⟨ho, .inl h⟩
    · exact .inl ⟨asks_off ho, ho⟩
  obtain ⟨ho, _, i, j, rfl, hi, rfl, hj⟩ := Chip.asks_ok h0
  rcases hb : (st.blk i).look.bad with _ | _
  case true =>
    left
    have e : st.program (i : Int) (j : Int) pg = (23, st) := by unfold Chip.program; rw [if_neg (by simpa using h0)]; exact if_pos hb
    rw [e]
    exact ⟨rfl, .inr ⟨ho, .inr (.inl rfl)⟩⟩
  by_cases hlt : (j : Int) < (st.blk i).look.next
  · left
    have e : st.program (i : Int) (j : Int) pg = (24, st) := by unfold Chip.program; rw [if_neg (by simpa using h0)]; show (if (st.blk i).look.bad = true then _ else _) = _; rw [if_neg (by rw [hb]; decide)]; exact if_pos hlt
    rw [e]
    exact ⟨rfl, .inr ⟨ho, .inr (.inr rfl)⟩⟩
  right
  refine ⟨i, j, rfl, rfl, hj, by omega, ?_⟩
  obtain ⟨s1, hs1⟩ : ∃ s, st.nextEv.2.setPage i j (mask pg st.nextEv.1.mask) = s := ⟨_, rfl⟩
  obtain ⟨s2, hs2⟩ : ∃ s, s1.setLook i { (s1.blk i).look with next := (j : Int) + 1 } = s := ⟨_, rfl⟩
  have e : st.program (i : Int) (j : Int) pg = ((s2.ends st.nextEv.1.kind).1, (s2.ends st.nextEv.1.kind).2.2) := by
    unfold Chip.program
    rw [if_neg (by simpa using h0)]
    show (if (st.blk i).look.bad = true then _ else _) = _
    rw [if_neg (by rw [hb]; decide)]
    show (if (j : Int) < (st.blk i).look.next then _ else _) = _
    rw [if_neg hlt, ← hs2, ← hs1]
    rfl
  rw [e]
  obtain ⟨k1, k2, k3, k4, k5, k6⟩ := ends_law s2 st.nextEv.1.kind
  obtain ⟨n1, n2, n3⟩ := nextEv_blk st
  obtain ⟨m1, m2⟩ := nextEv_ops st
  have b2 : ∀ x, s2.blk x = if x = i then ⟨fun y => if y = j then mask pg st.nextEv.1.mask else (st.blk i).pages y, { (st.blk i).look with next := (j : Int) + 1 }⟩ else st.blk x := by
    intro x
    rw [← hs2, ← hs1]
    unfold Chip.setLook Chip.setPage Chip.setBlk
    dsimp only
    by_cases hx : x = i
    · subst hx; simp [n1]
    · simp [hx, n1]
  have ro : s2.off = st.off := by rw [← hs2, ← hs1]; exact m2
  refine ⟨⟨hi, ho, ?_, ?_, ?_, ?_, fun x hx => ?_, hb, ?_⟩, ?_, ?_⟩
  · show (s2.ends _).2.2.bn = _; rw [k2, ← hs2, ← hs1]; exact n2
  · show (s2.ends _).2.2.pn = _; rw [k3, ← hs2, ← hs1]; exact n3
  · show (s2.ends _).2.2.ops = _; rw [k5, ← hs2, ← hs1]; exact m1
  · intro hf
    unfold Chip.fits
    show ∀ e ∈ (s2.ends _).2.2.evs, _
    rw [k4, ← hs2, ← hs1]
    exact nextEv_evs st hf
  · show (s2.ends _).2.2.blk x = _; rw [k1, b2, if_neg hx]
  · rcases k6 with ⟨h1, h2, _⟩ | ⟨h1, h2, _⟩ | ⟨h1, h2, _⟩
    · exact .inl ⟨h1, by rw [h2, ro, ho]⟩
    · exact .inr (.inl ⟨h1, by rw [h2, ro, ho]⟩)
    · exact .inr (.inr ⟨h1, h2⟩)
  · show ((s2.ends _).2.2.blk i).look = _; rw [k1, b2, if_pos rfl]
  · show ((s2.ends _).2.2.blk i).pages = _; rw [k1, b2, if_pos rfl]
end Go.Proofs.Ytlgjlhgdpiipbaa
/- What Erase makes of a chip; what holds behind any calls. -/
namespace Go.Proofs.Ytlgjlhgdpiipbaa
open Go.RowKit
theorem judged_law (st : Chip) (i : Nat) (k : Int) : (∀ x, x ≠ i → (st.judged i k).2.blk x = st.blk x) ∧ ((st.judged i k).2.blk i).pages = (st.blk i).pages ∧ ((st.judged i k).2.blk i).look.wear = (st.blk i).look.wear ∧ ((st.judged i k).2.blk i).look.next = (st.blk i).look.next ∧
    (st.judged i k).2.bn = st.bn ∧ (st.judged i k).2.pn = st.pn ∧ (st.judged i k).2.evs = st.evs ∧ (st.judged i k).2.ops = st.ops ∧
    (((st.judged i k).1 = 0 ∧ (st.judged i k).2.off = st.off ∧ ((st.judged i k).2.blk i).look.bad = false) ∨ ((st.judged i k).1 = 25 ∧ (st.judged i k).2.off = st.off ∧ ((st.judged i k).2.blk i).look.bad = true) ∨ ((st.judged i k).1 = 8 ∧ (st.judged i k).2.off = true ∧ ((st.judged i k).2.blk i).look.bad = false)) := by
  have e : ∀ x, (st.judged i k).2.blk x = if x = i then ⟨(st.blk i).pages, { (st.blk i).look with bad := (st.ends k).2.1 }⟩ else st.blk x := by
    intro x
    unfold Chip.judged Chip.setLook Chip.setBlk
    dsimp only
    rw [(ends_law st k).1]
  refine ⟨fun x hx => by rw [e, if_neg hx], by rw [e, if_pos rfl], by rw [e, if_pos rfl], by rw [e, if_pos rfl], ?_⟩
  rw [e, if_pos rfl]
  dsimp only
  unfold Chip.judged Chip.setLook Chip.setBlk Chip.ends
  split
  · exact ⟨rfl, rfl, rfl, rfl, .inr (.inr ⟨rfl, rfl, rfl⟩)⟩
  · split
    · exact ⟨rfl, rfl, rfl, rfl, .inr (.inl ⟨rfl, rfl, rfl⟩)⟩
    · exact ⟨rfl, rfl, rfl, rfl, .inl ⟨rfl, rfl, rfl⟩⟩
theorem torn_law (st : Chip) (i : Nat) (m : List UInt8) : (∀ x, x ≠ i → (st.torn i m).blk x = st.blk x) ∧ ((st.torn i m).blk i).pages = st.laid i (mask (allOf (st.blk i).pages st.pn) m) ∧ ((st.torn i m).blk i).look = { (st.blk i).look with next := st.pn } ∧
    (st.torn i m).bn = st.bn ∧ (st.torn i m).pn = st.pn ∧ (st.torn i m).evs = st.evs ∧ (st.torn i m).ops = st.ops ∧ (st.torn i m).off = st.off := by
  have e : ∀ x, (st.torn i m).blk x = if x = i then ⟨st.laid i (mask (allOf (st.blk i).pages st.pn) m), { (st.blk i).look with next := st.pn }⟩ else st.blk x := by
    intro x
    unfold Chip.torn Chip.setPages Chip.setLook Chip.setBlk
    dsimp only
    by_cases hx : x = i
    · simp [hx]
    · simp [hx]
  exact ⟨fun x hx => by rw [e, if_neg hx], by rw [e, if_pos rfl], by rw [e, if_pos rfl], rfl, rfl, rfl, rfl, rfl⟩
theorem cleared_law (st : Chip) (i : Nat) : (∀ x, x ≠ i → (st.cleared i).blk x = st.blk x) ∧ ((st.cleared i).blk i).pages = st.wiped i ∧ ((st.cleared i).blk i).look = { (st.blk i).look with next := 0 } ∧
    (st.cleared i).bn = st.bn ∧ (st.cleared i).pn = st.pn ∧ (st.cleared i).evs = st.evs ∧ (st.cleared i).ops = st.ops ∧ (st.cleared i).off = st.off := by
  have e : ∀ x, (st.cleared i).blk x = if x = i then ⟨st.wiped i, { (st.blk i).look with next := 0 }⟩ else st.blk x := by
    intro x
    unfold Chip.cleared Chip.setPages Chip.setLook Chip.setBlk
    dsimp only
    by_cases hx : x = i
    · simp [hx]
    · simp [hx]
  exact ⟨fun x hx => by rw [e, if_neg hx], by rw [e, if_pos rfl], by rw [e, if_pos rfl], rfl, rfl, rfl, rfl, rfl⟩
theorem worn_law (st : Chip) (i : Nat) : (∀ x, x ≠ i → (st.worn i).blk x = st.blk x) ∧ ((st.worn i).blk i).pages = (st.blk i).pages ∧ ((st.worn i).blk i).look = { (st.blk i).look with wear := (st.blk i).look.wear + 1 } ∧
    (st.worn i).bn = st.bn ∧ (st.worn i).pn = st.pn ∧ (st.worn i).evs = st.evs ∧ (st.worn i).ops = st.ops ∧ (st.worn i).off = st.off := by
  have e : ∀ x, (st.worn i).blk x = if x = i then ⟨(st.blk i).pages, { (st.blk i).look with wear := (st.blk i).look.wear + 1 }⟩ else st.blk x := by
    intro x
    unfold Chip.worn Chip.setLook Chip.setBlk
    dsimp only
  exact ⟨fun x hx => by rw [e, if_neg hx], by rw [e, if_pos rfl], by rw [e, if_pos rfl], rfl, rfl, rfl, rfl, rfl⟩
theorem erase_law (st : Chip) (n : Int) :
    ((st.erase n).2 = st ∧ Refused st (st.erase n).1) ∨
    ∃ i : Nat, n = i ∧ Took st (st.erase n).2 i (st.erase n).1 ∧ ((st.erase n).2.blk i).look.wear = (st.blk i).look.wear + 1 ∧
      ((st.nextEv.1.kind = 0 ∧ (st.erase n).1 = 0 ∧ ((st.erase n).2.blk i).look.next = 0 ∧ ((st.erase n).2.blk i).look.bad = false ∧ ∀ x, x < st.pn → ((st.erase n).2.blk i).pages x = rep 288 255) ∨
       (st.nextEv.1.kind ≠ 0 ∧ ((st.erase n).2.blk i).look.next = st.pn ∧ ((st.erase n).2.blk i).pages = st.laid i (mask (allOf (st.blk i).pages st.pn) st.nextEv.1.mask))) := by
  by_cases h0 : st.asks n 0 = 0
  case neg =>
    left
    have e : st.erase n = (st.asks n 0, st) := by unfold Chip.erase; rw [if_pos h0]
    rw [e]
    refine ⟨rfl, ?_⟩
    rcases ho : st.off with _ | _
    · rcases asks_on (n := n) (p := 0) ho with h | h
      · exact absurd h h0
      · exact .inr ⟨ho, .inl h⟩
    · exact .inl ⟨asks_off ho, ho⟩
  obtain ⟨ho, _, i, j, rfl, hi, hj0, hj⟩ := Chip.asks_ok h0
  rcases hb : (st.blk i).look.bad with _ | _
  case true =>
    left
    have e : st.erase (i : Int) = (23, st) := by unfold Chip.erase; rw [if_neg (by simpa using h0)]; exact if_pos hb
    rw [e]
    exact ⟨rfl, .inr ⟨ho, .inr (.inl rfl)⟩⟩
  right
  refine ⟨i, rfl, ?_⟩
  obtain ⟨n1, n2, n3⟩ := nextEv_blk st
  obtain ⟨m1, m2⟩ := nextEv_ops st
  obtain ⟨w1, w2, w3, w4, w5, w6, w7, w8⟩ := worn_law st.nextEv.2 i
  have e : st.erase (i : Int) = if st.nextEv.1.kind ≠ 0 then ((st.nextEv.2.worn i).torn i st.nextEv.1.mask).judged i st.nextEv.1.kind else (0, (st.nextEv.2.worn i).cleared i) := by
    unfold Chip.erase
    rw [if_neg (by simpa using h0)]
    show (if (st.blk i).look.bad = true then _ else _) = _
    rw [if_neg (by rw [hb]; decide)]
    rfl
  by_cases hk : st.nextEv.1.kind = 0
  · rw [e, if_neg (by simpa using hk)]
    obtain ⟨c1, c2, c3, c4, c5, c6, c7, c8⟩ := cleared_law (st.nextEv.2.worn i) i
    refine ⟨⟨hi, ho, c4.trans (w4.trans n2), c5.trans (w5.trans n3), c7.trans (w7.trans m1), fun hf => ?_, fun x hx => ?_, hb, .inl ⟨rfl, (c8.trans (w8.trans m2)).trans ho⟩⟩, ?_, .inl ⟨hk, rfl, ?_, ?_, fun x hx => ?_⟩⟩
    · unfold Chip.fits; rw [c6, w6]; exact nextEv_evs st hf
    · rw [c1 x hx, w1 x hx, n1]
    · rw [c3, w3, n1]
    · rw [c3]
    · rw [c3, w3, n1]; exact hb
    · rw [c2]; unfold Chip.wiped; rw [w5, n3, if_pos hx]
  · rw [e, if_pos hk]
    obtain ⟨t1, t2, t3, t4, t5, t6, t7, t8⟩ := torn_law (st.nextEv.2.worn i) i st.nextEv.1.mask
    obtain ⟨j1, j2, j3, j4, j5, j6, j7, j8, j9⟩ := judged_law ((st.nextEv.2.worn i).torn i st.nextEv.1.mask) i st.nextEv.1.kind
    have hoff : ((st.nextEv.2.worn i).torn i st.nextEv.1.mask).off = false := t8.trans ((w8.trans m2).trans ho)
    refine ⟨⟨hi, ho, j5.trans (t4.trans (w4.trans n2)), j6.trans (t5.trans (w5.trans n3)), j8.trans (t7.trans (w7.trans m1)), fun hf => ?_, fun x hx => ?_, hb, ?_⟩, ?_, .inr ⟨hk, ?_, ?_⟩⟩
    · unfold Chip.fits; rw [j7, t6, w6]; exact nextEv_evs st hf
    · rw [j1 x hx, t1 x hx, w1 x hx, n1]
    · rcases j9 with ⟨h1, h2, _⟩ | ⟨h1, h2, _⟩ | ⟨h1, h2, _⟩
      · exact .inl ⟨h1, h2.trans hoff⟩
      · exact .inr (.inl ⟨h1, h2.trans hoff⟩)
      · exact .inr (.inr ⟨h1, h2⟩)
    · rw [j3, t3, w3, n1]
    · rw [j4, t3, w5, n3]
    · rw [j2, t2]
      unfold Chip.laid
      rw [w2, w5, n1, n3]
/-- What holds behind N calls at most. -/
structure Chip.Good (N : Int) (st : Chip) : Prop where
  fits : st.fits
  ops : 0 ≤ st.ops ∧ st.ops ≤ N
  wear : ∀ i, i < st.bn → 0 ≤ (st.blk i).look.wear ∧ (st.blk i).look.wear ≤ N
  next : ∀ i, i < st.bn → 0 ≤ (st.blk i).look.next ∧ (st.blk i).look.next ≤ st.pn
theorem Chip.Good.mono {N M : Int} {st : Chip} (h : st.Good N) (hm : N ≤ M) : st.Good M :=
  ⟨h.fits, ⟨h.ops.1, by have := h.ops.2; omega⟩, fun i hi => ⟨(h.wear i hi).1, by have := (h.wear i hi).2; omega⟩, h.next⟩
theorem Chip.Good.took {N : Int} {st st' : Chip} {i : Nat} {a : Int} (h : st.Good N) (t : Took st st' i a) (hw : (st.blk i).look.wear ≤ (st'.blk i).look.wear ∧ (st'.blk i).look.wear ≤ (st.blk i).look.wear + 1) (hn : 0 ≤ (st'.blk i).look.next ∧ (st'.blk i).look.next ≤ st.pn) : st'.Good (N + 1) := by
  refine ⟨t.fits h.fits, ?_, fun x hx => ?_, fun x hx => ?_⟩
  · rw [t.ops]; have := h.ops; omega
  · rw [t.bn] at hx
    have := h.wear x hx
    by_cases e : x = i
    · subst e; omega
    · rw [t.other x e]; omega
  · rw [t.bn] at hx
    rw [t.pn]
    have := h.next x hx
    by_cases e : x = i
    · subst e; exact hn
    · rw [t.other x e]; exact this
theorem program_good {N : Int} {st : Chip} (h : st.Good N) (n page : Int) (pg : List UInt8) : (st.program n page pg).2.Good (N + 1) := by
  rcases program_law st n page pg with ⟨e, _⟩ | ⟨i, j, _, _, hj, _, t, hl, _⟩
  · rw [e]; exact h.mono (by omega)
  · refine h.took t ?_ ?_
    · rw [hl]; dsimp only; omega
    · rw [hl]; dsimp only; omega
theorem erase_good {N : Int} {st : Chip} (h : st.Good N) (n : Int) : (st.erase n).2.Good (N + 1) := by
  rcases erase_law st n with ⟨e, _⟩ | ⟨i, _, t, hw, hc⟩
  · rw [e]; exact h.mono (by omega)
  · refine h.took t (by omega) ?_
    rcases hc with ⟨_, _, h1, _⟩ | ⟨_, h1, _⟩ <;> omega
theorem does_good {N : Int} {st : Chip} (h : st.Good N) (o : Cl) : (st.does o).2.Good (N + 1) := by
  unfold Chip.does
  split
  · exact program_good h _ _ _
  · split
    · exact erase_good h _
    · split
      · exact h.mono (by omega)
      · split
        · exact ⟨h.fits, ⟨h.ops.1, by have := h.ops.2; show st.ops ≤ N + 1; omega⟩, fun i hi => ⟨(h.wear i hi).1, by have := (h.wear i hi).2; show (st.blk i).look.wear ≤ N + 1; omega⟩, h.next⟩
        · exact h.mono (by omega)
theorem does_geo (st : Chip) (o : Cl) : (st.does o).2.bn = st.bn ∧ (st.does o).2.pn = st.pn := by
  unfold Chip.does
  split
  · rcases program_law st o.blk (st.pageOf o) (rep 288 o.fill) with ⟨e, _⟩ | ⟨_, _, _, _, _, _, t, _⟩
    · dsimp only; rw [e]; exact ⟨rfl, rfl⟩
    · exact ⟨t.bn, t.pn⟩
  · split
    · rcases erase_law st o.blk with ⟨e, _⟩ | ⟨_, _, t, _⟩
      · dsimp only; rw [e]; exact ⟨rfl, rfl⟩
      · exact ⟨t.bn, t.pn⟩
    · split
      · exact ⟨rfl, rfl⟩
      · split <;> exact ⟨rfl, rfl⟩
theorem fresh_good {bn pn : Int} {bad : List Int} {evs : List Ev} {st : Chip} (h : newChip bn pn bad evs = .ok st) : st.Good 0 := by
  unfold newChip at h
  split at h
  · split at h
    · cases h
    · split at h
      · rename_i hm
        cases h
        exact ⟨mayFrom_mask hm, ⟨Int.le_refl _, Int.le_refl _⟩, fun i hi => ⟨Int.le_refl _, Int.le_refl _⟩, fun i hi => ⟨Int.le_refl _, by show (0 : Int) ≤ _; omega⟩⟩
      · cases h
  · cases h
end Go.Proofs.Ytlgjlhgdpiipbaa
/- Slices of pages; Pages. -/
namespace Go.Proofs.Ytlgjlhgdpiipbaa
open Go.RowKit
section
variable {α : Type}
/-- A slice of structs, k cells each, reads as this list. -/
def RdC (f : α → List Value) (k : Nat) (W : World) (v : Value) (xs : List α) : Prop :=
  ∃ a cap, v = .slice a xs.length cap ∧ xs.length ≤ cap ∧ ∀ j x, xs[j]? = some x → ∃ b o, a = some ⟨b, o, none⟩ ∧ b < W.heap.size ∧ ∀ i u, (f x)[i]? = some u → W.cell? ⟨b, o + j * k + i, none⟩ = some u
theorem RdC.nil (f : α → List Value) (k : Nat) (W : World) : RdC f k W (.slice none 0 0) [] := ⟨none, 0, rfl, Nat.le_refl _, fun j x h => by simp at h⟩
theorem RdC.below {f : α → List Value} {k : Nat} {W W' : World} {v : Value} {xs : List α} (h : RdC f k W v xs) (hb : Below W.heap.size W W') : RdC f k W' v xs := by
  obtain ⟨a, cap, h1, h2, h3⟩ := h
  refine ⟨a, cap, h1, h2, fun j x hj => ?_⟩
  obtain ⟨b, o, h4, h5, h6⟩ := h3 j x hj
  exact ⟨b, o, h4, Nat.lt_of_lt_of_le h5 hb.size, fun i u hu => (hb.cell (p := ⟨b, o + j * k + i, none⟩) h5).trans (h6 i u hu)⟩
theorem RdC.len {f : α → List Value} {k : Nat} {W : World} {v : Value} {xs : List α} (h : RdC f k W v xs) : ∃ a cap, v = .slice a xs.length cap := by
  obtain ⟨a, cap, h1, _⟩ := h; exact ⟨a, cap, h1⟩
theorem RdC.at {f : α → List Value} {k : Nat} {W : World} {v : Value} {xs : List α} (h : RdC f k W v xs) (hx : xs ≠ []) :
    ∃ b o cap, v = .slice (some ⟨b, o, none⟩) xs.length cap ∧ xs.length ≤ cap ∧ b < W.heap.size ∧ ∀ j (hj : j < xs.length) i u, (f xs[j])[i]? = some u → W.cell? ⟨b, o + j * k + i, none⟩ = some u := by
  obtain ⟨a, cap, rfl, hc, h3⟩ := h
  match xs, hx with
  | x :: xs, _ =>
    obtain ⟨b, o, rfl, hb, _⟩ := h3 0 x rfl
    refine ⟨b, o, cap, rfl, hc, hb, fun j hj => ?_⟩
    obtain ⟨b', o', e, _, h⟩ := h3 j _ (List.getElem?_eq_getElem hj)
    cases e; exact h
theorem flat_at {f : α → List Value} {k : Nat} (hk : ∀ x, (f x).length = k) : ∀ (xs : List α) (j : Nat) (x : α), xs[j]? = some x → ∀ i u, (f x)[i]? = some u → (xs.flatMap f)[j * k + i]? = some u
  | [], j, x, h => by simp at h
  | y :: xs, 0, x, h => by
    simp at h; subst h
    intro i u hu
    rw [List.flatMap_cons, Nat.zero_mul, Nat.zero_add, List.getElem?_append_left (List.getElem?_eq_some_iff.1 hu).1]
    exact hu
  | y :: xs, j + 1, x, h => by
    intro i u hu
    have ih := flat_at hk xs j x (by simpa using h) i u hu
    rw [List.flatMap_cons, show (j + 1) * k + i = j * k + i + k by rw [Nat.add_mul]; omega, List.getElem?_append_right (by rw [hk]; omega), hk, Nat.add_sub_cancel]
    exact ih
theorem RdC.of_own {f : α → List Value} {k : Nat} (hk : ∀ x, (f x).length = k) {e : TypeId} {W : World} {B : Nat} {v : Value} {xs : List α} (h : W.ownsRow B e k v xs.length (xs.flatMap f)) : RdC f k W v xs := by
  have h' := h
  obtain ⟨_, ⟨rfl, h0⟩ | ⟨g, cap, cur, rfl, hg, hh, hc, hm, hs, ht⟩⟩ := h
  · refine ⟨none, 0, by rw [h0], by omega, fun j x hj => ?_⟩
    have : xs = [] := List.eq_nil_of_length_eq_zero h0
    subst this; simp at hj
  · refine ⟨_, cap, rfl, hc, fun j x hj => ⟨g, 0, rfl, (h'.lt g rfl).2, fun i u hu => ?_⟩⟩
    have := h'.cells (g := g) rfl (j * k + i) u (flat_at hk xs j x hj i u hu)
    have e : (⟨g, 0, none⟩ : Addr).add (j * k + i) = ⟨g, 0 + j * k + i, none⟩ := by
      unfold Addr.add; split <;> simp_all <;> omega
    rw [← e]; exact this
theorem RdC.of_all {f : α → List Value} {k : Nat} {W : World} {v : Value} {xs : List α} (b o cap : Nat) (hv : v = .slice (some ⟨b, o, none⟩) xs.length cap) (hc : xs.length ≤ cap) (hb : b < W.heap.size)
    (h : ∀ j x, xs[j]? = some x → ∀ i u, (f x)[i]? = some u → W.cell? ⟨b, o + j * k + i, none⟩ = some u) : RdC f k W v xs :=
  ⟨_, cap, hv, hc, fun j x hj => ⟨b, o, rfl, hb, h j x hj⟩⟩
end
/-- A page's cells (a list of any length is cut or filled). -/
def pgL (l : List UInt8) : List Value := ((l ++ rep 288 0).take 288).map byteV
theorem pgL_len (l : List UInt8) : (pgL l).length = 288 := by unfold pgL; rw [List.length_map, List.length_take, List.length_append, rep_len]; omega
theorem pgL_eq {l : List UInt8} (h : l.length = 288) : pgL l = l.map byteV := by unfold pgL; rw [← h, List.take_left]
/-- A slice literal of one page. -/
theorem wpList_build_pg {w : World} {ops : Array Oper} {rest : List Oper} {o : Oper} {a : Act} {Q : Exit → Act → World → Prop} (hg : o.guard = none) (x : Operand) (ho : o.op = .buildSlice 56 1 #[(0, x)]) (l : List UInt8) (hx : a.eval x = .agg (cellsB l)) (hl : l.length = 288)
    (h : wpList Try.prog ops Q rest (a.put o.dst (.slice (some ⟨w.heap.size, 0, none⟩) 1 1)) (w.alloc (.cells (cellsB l) 48))) : wpList Try.prog ops Q (o :: rest) a w := by
  obtain ⟨i0, hi0, hz0, hz1, hz2⟩ := info_parts info48
  refine wpList_buildSlice hg 56 48 1 _ ho (cellsB l) i0 (.agg (cellsB (rep 288 0))) Try.underlying56 hi0 hz0 (by rw [hz1]; decide) (by rw [hz1]; decide) ?_ h
  rw [hz1]
  have e := Great.fill_whole (s := 288) (by decide) [.agg (cellsB l)] ((Array.range (1 * 288)).map ((Value.agg (cellsB (rep 288 0))).cells[· % (Value.agg (cellsB (rep 288 0))).cells.size]!)) (fun v hv => by
    rw [List.mem_singleton.1 hv]; show (cellsB l).size = 288; rw [cellsB_size, hl]) (by simp)
  have e2 : (#[(0, x)].map fun (i, x) => (i, a.eval x)).toList = [(0, .agg (cellsB l))] := by simp [hx]
  rw [e2]
  refine e.trans ?_
  simp [Value.cells]
/-- A block's pages, in their order. -/
def Chip.pagesOf (st : Chip) (n : Int) : List (List UInt8) := if st.there n then (List.range st.pn).map (st.blk n.toNat).pages else []
theorem pagesOf_no {st : Chip} {n : Int} (h : st.there n = false) : st.pagesOf n = [] := by unfold Chip.pagesOf; rw [h]; rfl
theorem pagesOf_yes {st : Chip} {i : Nat} (h : st.there (i : Int) = true) : st.pagesOf (i : Int) = (List.range st.pn).map (st.blk i).pages := by unfold Chip.pagesOf; rw [if_pos h]; rfl
/-- An iterator over pages that lie in memory. -/
def SeqPg (ps : List (List UInt8)) (w : World) (e : Ending) (w' : World) : Prop :=
  ∃ Bl la lc, e = .returned (.func (.func 55) #[] #[.pointer (some ⟨Bl, 0, none⟩)]) ∧ w.heap.size ≤ Bl ∧ Box w' Bl 56 #[.slice la ps.length lc] ∧ RdC pgL 288 w' (.slice la ps.length lc) ps ∧ (∀ b o, la = some ⟨b, o, none⟩ → w.heap.size ≤ b ∧ b < w'.heap.size) ∧ Below w.heap.size w w'
set_option maxRecDepth 100000 in
theorem sAll_any (la : Option Addr) (n lc : Nat) (w : World) : Calls Try.prog 39 #[.slice la n lc] w (fun e w' => e = .returned (.func (.func 55) #[] #[.pointer (some ⟨w.heap.size, 0, none⟩)]) ∧ w' = w.alloc (.cells #[.slice la n lc] 56)) := by
  go_enter Try.func39, Try.ntmps39
  go_wp2_with fail
  go_ret
  exact ⟨rfl, rfl⟩
theorem own_addr {W : World} {B : Nat} {e : TypeId} {size n m lc : Nat} {la : Option Addr} {xs : List Value} (h : W.ownsRow B e size (.slice la m lc) n xs) (b o : Nat) (hb : la = some ⟨b, o, none⟩) : B ≤ b ∧ b < W.heap.size :=
  h.lt b (by rw [hb]; rfl)
theorem seqPg_of {w w1 : World} {ps : List (List UInt8)} {la : Option Addr} {lc : Nat} (ho : w1.ownsRow w.heap.size 48 288 (.slice la ps.length lc) ps.length (ps.flatMap pgL)) (hb : Below w.heap.size w w1) :
    SeqPg ps w (.returned (.func (.func 55) #[] #[.pointer (some ⟨w1.heap.size, 0, none⟩)])) (w1.alloc (.cells #[.slice la ps.length lc] 56)) := by
  have hal := (Below.refl w1.heap.size w1).alloc (Nat.le_refl _) (.cells #[.slice la ps.length lc] 56)
  exact ⟨w1.heap.size, la, lc, rfl, hb.size, Box.new _ _ _, (RdC.of_own pgL_len ho).below hal, fun b o e => by have := own_addr ho b o e; rw [World.size_alloc]; omega, hb.alloc hb.size _⟩
/-- A page more. -/
theorem pg_push {w w1 : World} {ra : Option Addr} {rc k : Nat} {f : Nat → List UInt8} (ho : w1.ownsRow w.heap.size 48 288 (.slice ra k rc) k (((List.range k).map f).flatMap pgL)) (hb : Below w.heap.size w w1) (hk : k < 1000) (hl : (f k).length = 288) :
    ∃ va vn vc w2, (Builtin.append_ #[56, 56] 56 #[.slice ra k rc, .slice (some ⟨w1.heap.size, 0, none⟩) 1 1]).run Try.prog (w1.alloc (.cells (cellsB (f k)) 48)) = .ok (.slice va vn vc) w2 ∧
      w2.ownsRow w.heap.size 48 288 (.slice va (k + 1) vc) (k + 1) (((List.range (k + 1)).map f).flatMap pgL) ∧ vn = k + 1 ∧ Below w.heap.size w w2 := by
  obtain ⟨i0, hi0, hz0, hz1, hz2⟩ := info_parts info48
  have hal := (Below.refl w1.heap.size w1).alloc (Nat.le_refl _) (.cells (cellsB (f k)) 48)
  have ho1 := own_below ho hal
  have bx := Box.new w1 48 (cellsB (f k))
  obtain ⟨v', w2, hr, h2, h3, _⟩ := run_append_own_at (P := Try.prog) (w1.alloc (.cells (cellsB (f k)) 48)) w.heap.size 56 56 48 i0 (.agg (cellsB (rep 288 0))) 288 288 Try.underlying56 hi0 hz0 hz1 hz2 (by show (cellsB (rep 288 0)).size = 288; rw [cellsB_size, rep_len]) (by decide)
    (.slice ra k rc) k _ ho1 ⟨w1.heap.size, 0, none⟩ 1 1 ((f k).map byteV) (by rw [List.length_map, hl]) (fun j u hu => by
      rw [show (⟨w1.heap.size, 0, none⟩ : Addr).add j = ⟨w1.heap.size, j, none⟩ from by unfold Addr.add; split <;> simp_all]
      refine bx.get j u ?_
      unfold cellsB
      simpa using hu) (fun u hu => by obtain ⟨y, _, rfl⟩ := List.mem_map.1 hu; rfl) (by unfold maxLen; omega) (by omega) (by rw [World.size_alloc]; have := hb.size; omega)
  have e : ((List.range k).map f).flatMap pgL ++ (f k).map byteV = ((List.range (k + 1)).map f).flatMap pgL := by
    rw [List.range_succ, List.map_append, List.flatMap_append]
    simp [pgL_eq hl]
  rw [e] at h2
  obtain ⟨_, ⟨_, h0⟩ | ⟨g, cap, cur, rfl, _⟩⟩ := id h2
  · omega
  · exact ⟨_, _, _, w2, hr, h2, rfl, (hb.alloc hb.size _).grown h3 (by rw [World.size_alloc]; have := hb.size; omega) (fun b hb' => (ho.lt b hb').1)⟩
set_option maxRecDepth 100000 in
set_option maxHeartbeats 4000000 in
theorem pages22_any {Fm Fr : Nat → Prop} {c : Nat} {st : Chip} {L : Lay} {w : World} (h : ChipR w Fm Fr c st L) (n : Int) : Calls Try.prog 22 #[.pointer (some ⟨c, 0, none⟩), .int .i64 n] w (SeqPg (st.pagesOf n) w) := by
  have hm := Lib.hid (made_any h)
  have ht := there_any h n
  have c2 := h.c2
  have hall := fun (la : Option Addr) (m lc : Nat) (W : World) => sAll_any la m lc W
  replace hall := Lib.hid hall
  rcases hth : st.there n with _ | _
  · rw [hth] at ht
    replace ht := Lib.hid ht
    rw [pagesOf_no hth]
    have hfin := Lib.hid (seqPg_of (w := w) (w1 := w) (ps := []) (la := none) (lc := 0) (World.ownsRow_nil _ _ _ _) (Below.refl _ _))
    clear h hth
    go_enter Try.func22, Try.ntmps22
    go_wp2_with (first | (go_at_call 36; (with_reducible refine hm.out.mono ?_); rintro e w' ⟨rfl, hw⟩; obtain rfl := hw.symm) | (go_at_call 31; (with_reducible refine ht.out.mono ?_); rintro e w' ⟨rfl, hw⟩; obtain rfl := hw.symm) | (go_at_call 39; refine (hall.out _ _ _ _).mono ?_; rintro e w' ⟨rfl, rfl⟩))
    go_ret
    exact hfin.out
  · obtain ⟨i, rfl, hi⟩ := Chip.there_nat hth
    rw [hth] at ht
    replace ht := Lib.hid ht
    rw [pagesOf_yes hth]
    have r0 := h.r hi
    have b0 := h.b0 hi
    have hI : (i : Int) < (st.bn : Int) := by omega
    have hI0 : (0 : Int) ≤ (i : Int) := by omega
    have hbnd := h.bnd
    replace h := Lib.hid h
    clear hth
    go_enter Try.func22, Try.ntmps22
    go_wp2_with (first | (go_at_call 36; (with_reducible refine hm.out.mono ?_); rintro e w' ⟨rfl, hw⟩; obtain rfl := hw.symm) | (go_at_call 31; (with_reducible refine ht.out.mono ?_); rintro e w' ⟨rfl, hw⟩; obtain rfl := hw.symm))
    clear hm ht c2 r0 b0
    go_loopw [5, 26] (fun out x wr => ∃ (k : Nat) (ra : Option Addr) (rc : Nat), k ≤ st.pn ∧ x = .int .i64 k ∧ out = .slice ra k rc ∧ wr.ownsRow w.heap.size 48 288 (.slice ra k rc) k (((List.range k).map (st.blk i).pages).flatMap pgL) ∧ Below w.heap.size w wr) (fun _ x _ => st.pn - (intOf x).toNat)
    case atStart => exact ⟨0, none, 0, by omega, rfl, rfl, World.ownsRow_nil _ _ _ _, Below.refl _ _⟩
    case round =>
      obtain ⟨k, ra, rc, hk, rfl, rfl, ho, hb⟩ := hrel
      by_cases hlt : k < st.pn
      · have hC := h.out.below hb
        have p0 := hC.pp hi hlt
        have hq := hC.byt i hi k hlt
        have hl := h.out.len i hi k hlt
        have hp := Lib.hid (bpage_any _ _ _ _ hq hl)
        have hJ0 : (0 : Int) ≤ (k : Int) := by omega
        have hJ1 : (k : Int) < (st.pn : Int) := by omega
        have hpush := Lib.hid (fun w4 (h4 : Below wr.heap.size wr w4) => pg_push (w := w) (f := (st.blk i).pages) (own_below ho h4) (hb.trans (h4.mono hb.size)) (show k < 1000 by omega) hl)
        obtain ⟨l, hll⟩ : ∃ l, (st.blk i).pages k = l := ⟨_, rfl⟩
        have hl288 : l.length = 288 := by rw [← hll]; exact hl
        rw [hll] at hp hpush
        clear hC hq hl hll ho hb
        go_wp2_with fail
        refine hp.out.mono ?_
        rintro e w4 ⟨rfl, h4⟩
        obtain ⟨va, vn, vc, w5, hrun, ho5, rfl, hb5⟩ := hpush.out w4 h4
        replace hrun := Lib.hid hrun
        replace ho5 := Lib.hid ho5
        replace hb5 := Lib.hid hb5
        clear hp hpush h4
        unfold pgV
        go_wp2_with (first | (refine wpList_build_pg rfl _ rfl l rfl hl288 ?_) | (at_builtin; refine wpList_append_run rfl _ _ 56 rfl _ _ rfl rfl _ _ hrun.out ?_))
        go_roundw
        case rel => exact ⟨k + 1, _, _, by omega, by go_num, rfl, ho5.out, hb5.out⟩
        case measure => simp [intOf]; omega
      · obtain rfl : k = st.pn := by omega
        have hln : ((List.range st.pn).map (st.blk i).pages).length = st.pn := by simp
        have hfin := Lib.hid (seqPg_of (w := w) (w1 := wr) (ps := (List.range st.pn).map (st.blk i).pages) (la := ra) (lc := rc) (by rw [hln]; exact ho) hb)
        rw [hln] at hfin
        clear ho hb
        go_wp2_with (go_at_call 39; refine (hall.out _ _ _ _).mono ?_; rintro e w' ⟨rfl, rfl⟩)
        go_ret
        exact hfin.out
end Go.Proofs.Ytlgjlhgdpiipbaa
/- Steps of walks in a range over a func: whole pages; what lies low is kept. -/
namespace Go.Proofs.Ytlgjlhgdpiipbaa
open Go.RowKit Go.Shelf
section
variable {F : Fence} {nF : Nat} {P : Program} {w w' : World} {ops : Array Oper} {rest : List Oper} {o : Oper} {a : Act} {Q : Exit → Act → World → Prop}
theorem wpListIn_load_var (hg : o.guard = none) (t : TypeId) (x : Operand) (ho : o.op = Op.load t x) (ad : Addr) (hx : a.eval x = .pointer (some ad)) (v : Value)
    (hl : (loadVar t ad).run P w = .ok v w) (hK : wpListIn F nF P ops Q rest (a.put o.dst v) w) : wpListIn F nF P ops Q (o :: rest) a w := by
  refine wpListIn_plain hg fun K hK' => ?_
  unfold Oper.wpIn
  refine ⟨by simp [Oper.about, ho], ?_⟩
  rw [Oper.semAt_plain F _ _ (by rw [ho]; intro c hc'; cases hc')]
  simp [execOp, ho, hx, Instr.loadAt, Instr.sureAddr, hl, Result.andThen]
  exact hK' _ _ hK
theorem wpListIn_store_var (hg : o.guard = none) (t : TypeId) (x y : Operand) (ho : o.op = Op.store t x y) (ad : Addr) (hx : a.eval x = .pointer (some ad)) (v : Value) (hy : a.eval y = v)
    (hl : (storeVar t ad v).run P w = .ok () w') (hK : wpListIn F nF P ops Q rest (a.put o.dst undef) w') : wpListIn F nF P ops Q (o :: rest) a w := by
  refine wpListIn_plain hg fun K hK' => ?_
  unfold Oper.wpIn
  refine ⟨by simp [Oper.about, ho], ?_⟩
  rw [Oper.semAt_plain F _ _ (by rw [ho]; intro c hc'; cases hc')]
  simp [execOp, ho, hx, hy, Instr.storeAt, Instr.sureAddr, hl, Result.andThen]
  exact hK' _ _ hK
theorem wpListIn_append_run (hg : o.guard = none) (d s : Operand) (t : TypeId) (ho : o.op = .call { callee := .builtin .append, args := #[d, s], argTypes := #[t, t] }) (v u : Value) (hd : a.eval d = v) (hs : a.eval s = u) (r : Value)
    (hrun : (Builtin.append_ #[t, t] o.type #[v, u]).run P w = .ok r w') (h : wpListIn F nF P ops Q rest (a.put o.dst r) w') : wpListIn F nF P ops Q (o :: rest) a w := by
  refine wpListIn_plain hg fun K hK' => ?_
  unfold Oper.wpIn
  refine ⟨by simp [Oper.about, ho, resolve, Target.leads, Sem.run_pure], ?_⟩
  rw [Oper.semAt_plain F _ _ (by rw [ho]; intro c hc'; cases hc')]
  simp [execOp, ho, resolve, invoke, builtin, hd, hs, hrun, Result.andThen]
  exact hK' _ _ h
end
/-- A slice literal of one page. -/
theorem wpListIn_build_pg {F : Fence} {nF : Nat} {w : World} {ops : Array Oper} {rest : List Oper} {o : Oper} {a : Act} {Q : Exit → Act → World → Prop} (hg : o.guard = none) (x : Operand) (ho : o.op = .buildSlice 56 1 #[(0, x)]) (l : List UInt8) (hx : a.eval x = .agg (cellsB l)) (hl : l.length = 288)
    (h : wpListIn F nF Try.prog ops Q rest (a.put o.dst (.slice (some ⟨w.heap.size, 0, none⟩) 1 1)) (w.alloc (.cells (cellsB l) 48))) : wpListIn F nF Try.prog ops Q (o :: rest) a w := by
  obtain ⟨i0, hi0, hz0, hz1, hz2⟩ := info_parts info48
  have e := Great.fill_whole (s := 288) (by decide) [.agg (cellsB l)] ((Array.range (1 * 288)).map ((Value.agg (cellsB (rep 288 0))).cells[· % (Value.agg (cellsB (rep 288 0))).cells.size]!)) (fun v hv => by
    rw [List.mem_singleton.1 hv]; show (cellsB l).size = 288; rw [cellsB_size, hl]) (by simp)
  have hr : (Instr.buildSlice 56 1 #[(0, a.eval x)]).run Try.prog w = .ok (.slice (some ⟨w.heap.size, 0, none⟩) 1 1) (w.alloc (.cells (cellsB l) 48)) := by
    refine run_buildSlice w 56 48 1 _ (cellsB l) i0 (.agg (cellsB (rep 288 0))) Try.underlying56 hi0 hz0 (by rw [hz1]; decide) (by rw [hz1]; decide) ?_
    rw [hz1, hx]
    refine Eq.trans ?_ (e.trans ?_)
    · rfl
    · simp [Value.cells]
  refine wpListIn_plain hg fun K hK' => ?_
  unfold Oper.wpIn
  refine ⟨by simp [Oper.about, ho], ?_⟩
  rw [Oper.semAt_plain F _ _ (by rw [ho]; intro c hc'; cases hc')]
  simp [execOp, ho, hr, Result.andThen]
  exact hK' _ _ h
/-- Cells below B lie as they lay. -/
structure KeepsLow (B : Nat) (W W' : World) : Prop where
  size : W.heap.size ≤ W'.heap.size
  same : ∀ (k : Nat) (o : Obj), k < B → W.heap[k]? = some o → o.isCells = true → W'.heap[k]? = some o
theorem KeepsLow.refl (B : Nat) (W : World) : KeepsLow B W W := ⟨Nat.le_refl _, fun _ _ _ h _ => h⟩
theorem KeepsLow.trans {B : Nat} {A C D : World} (h : KeepsLow B A C) (k : KeepsLow B C D) : KeepsLow B A D := ⟨Nat.le_trans h.size k.size, fun i o hi ho hc => k.same i o hi (h.same i o hi ho hc) hc⟩
theorem KeepsLow.put {B : Nat} {W : World} {l : Nat} {o o' : Obj} (hl : W.heap[l]? = some o) (hc : o.isCells = false) : KeepsLow B W (W.putObj l o') := by
  refine ⟨by simp [World.putObj], fun k o2 _ hk hc2 => ?_⟩
  have : k ≠ l := by rintro rfl; rw [hl] at hk; cases hk; rw [hc] at hc2; cases hc2
  rw [World.putObj_heap_other this]; exact hk
theorem Below.keepsLow {B : Nat} {W W' : World} (h : Below W.heap.size W W') : KeepsLow B W W' := ⟨h.size, fun k _ _ hk _ => (h.block k (Array.getElem?_eq_some_iff.1 hk).1).trans hk⟩
theorem below_keepsLow {B : Nat} {W W' : World} (h : Below B W W') : KeepsLow B W W' := ⟨h.size, fun k _ hb hk _ => (h.block k hb).trans hk⟩
/-- A slice that lies low reads on as it read. -/
theorem RdC.low {α : Type} {f : α → List Value} {k : Nat} (hf : ∀ x, (f x).length = k) (hk0 : 0 < k) {B : Nat} {W W' : World} {la : Option Addr} {n lc : Nat} {xs : List α} (h : RdC f k W (.slice la n lc) xs) (hk : KeepsLow B W W') (hb : ∀ b o, la = some ⟨b, o, none⟩ → b < B) : RdC f k W' (.slice la n lc) xs := by
  obtain ⟨a, c, h1, h2, h3⟩ := h
  cases h1
  refine ⟨_, _, rfl, h2, fun j x hj => ?_⟩
  obtain ⟨b', o, e1, e2, e3⟩ := h3 j x hj
  refine ⟨b', o, e1, Nat.lt_of_lt_of_le e2 hk.size, fun i u hu => ?_⟩
  have e4 := e3 i u hu
  have hlk : ∃ o : Obj, W.heap[b']? = some o ∧ o.isCells = true := by
    cases hh : W.heap[b']? with
    | none => simp [World.cell?, hh] at e4
    | some o => cases o <;> first | exact ⟨_, rfl, rfl⟩ | (simp [World.cell?, hh] at e4)
  obtain ⟨o2, ho, hc⟩ := hlk
  rw [World.cell?_of_block (w := W) (w' := W') (a := ⟨b', o + j * k + i, none⟩) ((hk.same b' o2 (hb b' o e1) ho hc).trans ho.symm)]
  exact e4
end Go.Proofs.Ytlgjlhgdpiipbaa
/- The iterator over a slice of pages (slices.All). -/
namespace Go.Proofs.Ytlgjlhgdpiipbaa
open Go.RowKit Go.Shelf
attribute [local go_sem] Oper.semAt_some
/-- A list of bytes, cut or filled to a page. -/
def nrm (l : List UInt8) : List UInt8 := (l ++ rep 288 0).take 288
theorem nrm_len (l : List UInt8) : (nrm l).length = 288 := by unfold nrm; rw [List.length_take, List.length_append, rep_len]; omega
theorem nrm_eq {l : List UInt8} (h : l.length = 288) : nrm l = l := by unfold nrm; rw [← h, List.take_left]
theorem pgL_nrm (l : List UInt8) : pgL l = (nrm l).map byteV := rfl
theorem loadPg_at (W : World) (b o : Nat) (l : List UInt8) (hl : l.length = 288) (h : ∀ i u, (l.map byteV)[i]? = some u → W.cell? ⟨b, o + i, none⟩ = some u) : (loadVar 48 ⟨b, o, none⟩).run Try.prog W = .ok (.agg (cellsB l)) W := by
  have hs : (Go.sizeOf 48).run Try.prog W = .ok 288 W := by kernel_rfl
  have h2 := load288 W b o l hl (fun j hj => h j _ (by simp [hj]))
  simp [loadVar, isAgg, run_underlying Try.underlying48, hs, loadCells, h2, Result.andThen]
set_option maxRecDepth 100000 in
set_option maxHeartbeats 4000000 in
theorem all1_in (n : Nat) (hn : 1 ≤ n) (l Bl B : Nat) (w0 : World) (ps : List (List UInt8)) (la : Option Addr) (lc : Nat) (h32 : ps.length ≤ 32) (J Jx : List (List UInt8 × Nat) → World → Prop) (hJ : ∀ pre W W', J pre W → Below W.heap.size W W' → J pre W')
    (hY : ∀ pre x W, J pre W → pre.length < 600 → YieldAt Fence.wide (n - 1) Try.prog l #[.int .i64 (x.2 : Nat), pgV (nrm x.1)] W fun e W' =>
      (e = .returned (.bool true) ∧ J (pre ++ [x]) W' ∧ KeepsLow B W W') ∨ (e = .returned (.bool false) ∧ Jx (pre ++ [x]) W'))
    (W : World) (hBl : W.cell? ⟨Bl, 0, none⟩ = some (.slice la ps.length lc)) (hW : Below w0.heap.size w0 W) (hrd : RdC pgL 288 W (.slice la ps.length lc) ps) (hla : ∀ b o, la = some ⟨b, o, none⟩ → b < B) (h0 : J [] W) :
    CallsIn Fence.wide n Try.prog 55 #[.func (.yield l) #[] #[], .pointer (some ⟨Bl, 0, none⟩)] W fun e W' => (∃ v, e = .returned v) ∧
      ((∃ ys, ys = ps.zipIdx ∧ J ys W') ∨ (∃ pre, pre <+: ps.zipIdx ∧ Jx pre W')) := by
  have hz := zero48
  replace hrd := Lib.hid hrd
  replace hla := Lib.hid hla
  replace h0 := Lib.hid h0
  replace hJ := Lib.hid hJ
  refine callsIn_of_wp Try.func55 rfl trivial ?_ rfl
  simp only [Try.ntmps55, List.size_toArray, List.length_cons, List.length_nil, Nat.reduceAdd, Nat.reduceSub, Array.replicate_succ, Array.replicate_zero, List.push_toArray, List.append_toArray, List.nil_append, List.cons_append]
  gi_wp2
  gi_loopw [7] (fun i wr => ∃ k : Nat, k ≤ ps.length ∧ i = .int .i64 k ∧ RdC pgL 288 wr (.slice la ps.length lc) ps ∧ J (ps.zipIdx.take k) wr)
    (fun i _ => ps.length - (intOf i).toNat)
  case atStart => exact ⟨0, Nat.zero_le _, rfl, hrd.out, h0.out⟩
  case round =>
    obtain ⟨k, hk, rfl, hrk, hJk⟩ := hrel
    by_cases hlt : k < ps.length
    · obtain ⟨bb, o, cc, hv, _, hbb, hcell⟩ := hrk.at (by intro e; rw [e] at hlt; simp at hlt)
      cases hv
      have hsn : ps.zipIdx.take (k + 1) = ps.zipIdx.take k ++ [(ps[k], k)] := by
        rw [List.take_succ_eq_append_getElem (by simpa using hlt)]; simp
      have hel : (ps.zipIdx.take k).length < 600 := by rw [List.length_take]; omega
      have hld := loadPg_at wr bb (o + k * 288) (nrm ps[k]) (nrm_len _) (fun i u hu => hcell k hlt i u hu)
      have hnl := nrm_len ps[k]
      have hbz := Box.new wr 48 (cellsB (rep 288 0))
      obtain ⟨hst, by2, hg2⟩ := hbz.storePg (l := nrm ps[k]) (by rw [cellsB_size, rep_len]) hnl
      have hal := ((Below.refl wr.heap.size wr).alloc (Nat.le_refl _) (.cells (cellsB (rep 288 0)) 48)).grown hg2 (by rw [World.size_alloc]; omega) (fun b e => by cases e; exact Nat.le_refl _)
      obtain ⟨W2, hW2⟩ : ∃ W2, (wr.alloc (.cells (cellsB (rep 288 0)) 48)).setRow wr.heap.size (cellsB (nrm ps[k])) = W2 := ⟨_, rfl⟩
      rw [hW2] at hst by2 hal
      have hld2 := by2.loadPg hnl
      have hrk2 := hrk.below hal
      have hJ2 := hJ.out _ _ _ hJk hal
      have hI0 : (0 : Int) ≤ (k : Int) := by omega
      have hI1 : (k : Int) < (ps.length : Int) := by omega
      obtain ⟨fn, tmps, assign, body, hy, hR⟩ := hY (ps.zipIdx.take k) (ps[k], k) _ hJ2 hel
      dsimp only at hy
      obtain ⟨p, hp⟩ : ∃ p, nrm ps[k] = p := ⟨_, rfl⟩
      rw [hp] at hld hst hld2 hy
      unfold pgV at hy hst hld2
      replace hrk2 := Lib.hid hrk2
      replace hsn := Lib.hid hsn
      clear hcell hbz hg2 by2 hal hJ2 hrk hJk hW2 hel hp hnl
      gi_wp2_with (first | (refine wpListIn_load_var rfl 48 _ rfl _ rfl _ hld ?_) | (refine wpListIn_store_var rfl 48 _ _ rfl _ rfl _ rfl hst ?_) | (refine wpListIn_load_var rfl 48 _ rfl _ rfl _ hld2 ?_))
      refine hR.mono ?_
      rintro e W3 (⟨rfl, hJ3, hk3⟩ | ⟨rfl, hJx3⟩)
      · have g1 := Lib.hid (hrk2.out.low pgL_len (by decide) hk3 hla.out)
        clear hld hst hld2
        gi_wp2
        go_roundw
        case rel => exact ⟨k + 1, by omega, by go_num, g1.out, by rw [hsn.out]; exact hJ3⟩
        case measure => simp [intOf]; omega
      · clear hld hst hld2
        gi_wp2
        refine bodyPost_ret (results_none rfl _ _ _) rfl ?_
        exact ⟨⟨_, rfl⟩, .inr ⟨_, by rw [← hsn.out]; exact List.take_prefix _ _, hJx3⟩⟩
    · have hk' : k = ps.length := by omega
      subst hk'
      rw [List.take_of_length_le (by simp)] at hJk
      replace hrk := Lib.hid hrk
      gi_wp2
      go_end0
      exact ⟨⟨_, rfl⟩, .inl ⟨_, rfl, hJk⟩⟩
end Go.Proofs.Ytlgjlhgdpiipbaa
