/- What a law knows of a chip: it has it, beside boxes of its own. -/
import Derived.Test.YtlgjlhgdpiipbaaW
namespace Go.Proofs.Ytlgjlhgdpiipbaa
open Go.RowKit
/-- In W, behind w: a chip in memory that is new since w; X: old boxes of the law's own, apart from the chip. -/
def Has (w W : World) (X : Nat → Prop) (c : Nat) (st : Chip) : Prop :=
  ∃ Fm Fr L, ChipR W Fm Fr c st L ∧ (∀ b, Fm b ∨ Fr b → w.heap.size ≤ b) ∧ (∀ b, X b → b < W.heap.size ∧ ¬ Fm b ∧ ¬ Fr b) ∧ Below w.heap.size w W
section
variable {w W W' : World} {X Y : Nat → Prop} {c : Nat} {st : Chip}
theorem Has.bel (h : Has w W X c st) : Below w.heap.size w W := by obtain ⟨_, _, _, _, _, _, h⟩ := h; exact h
theorem Has.bnd (h : Has w W X c st) : 0 < st.bn ∧ st.bn ≤ 256 ∧ 0 < st.pn ∧ st.pn ≤ 32 := by obtain ⟨_, _, _, h, _⟩ := h; exact h.bnd
theorem Has.below (h : Has w W X c st) (hb : Below W.heap.size W W') : Has w W' X c st := by
  obtain ⟨Fm, Fr, L, hC, hge, hX, hw⟩ := h
  exact ⟨Fm, Fr, L, hC.below hb, hge, fun b hx => ⟨Nat.lt_of_lt_of_le (hX b hx).1 hb.size, (hX b hx).2⟩, hw.trans (hb.mono hw.size)⟩
theorem Has.add (h : Has w W X c st) (hb : Below W.heap.size W W') (hY : ∀ b, Y b → X b ∨ (W.heap.size ≤ b ∧ b < W'.heap.size)) : Has w W' Y c st := by
  obtain ⟨Fm, Fr, L, hC, hge, hX, hw⟩ := h
  refine ⟨Fm, Fr, L, hC.below hb, hge, fun b hy => ?_, hw.trans (hb.mono hw.size)⟩
  rcases hY b hy with hx | ⟨h1, h2⟩
  · exact ⟨Nat.lt_of_lt_of_le (hX b hx).1 hb.size, (hX b hx).2⟩
  · exact ⟨h2, hC.new h1⟩
theorem Has.less (h : Has w W X c st) (hY : ∀ b, Y b → X b) : Has w W Y c st := h.add (Below.refl _ _) (fun b hb => .inl (hY b hb))
theorem Has.own (h : Has w W X c st) {b : Nat} (hx : X b) (hb : w.heap.size ≤ b) (hg : W.grownBy W' (some b)) : Has w W' X c st := by
  obtain ⟨Fm, Fr, L, hC, hge, hX, hw⟩ := h
  exact ⟨Fm, Fr, L, hC.grown_out hg (hX b hx).2, hge, fun a ha => ⟨Nat.lt_of_lt_of_le (hX a ha).1 hg.size, (hX a ha).2⟩, hw.grown hg hw.size (fun k e => by cases e; exact hb)⟩
theorem Has.set (h : Has w W X c st) {b : Nat} (hx : X b) (hb : w.heap.size ≤ b) (j : Nat) (v : Value) : Has w (W.setCell ⟨b, j, none⟩ v) X c st := h.own hx hb (grown_set1 W b j v)
end
/-- What a call of the chip leaves to a law. -/
def HasRes (w W : World) (X : Nat → Prop) (c : Nat) (v : Value) (st' : Chip) (e : Ending) (W' : World) : Prop := e = .returned v ∧ Has w W' X c st' ∧ Same X W W'
section
variable {w W : World} {X : Nat → Prop} {c : Nat} {st : Chip}
theorem opRes_has {Fm Fr : Nat → Prop} {L : Lay} {r : Int × Chip} {e : Ending} {W' : World} (hC : ChipR W Fm Fr c st L) (hge : ∀ b, Fm b ∨ Fr b → w.heap.size ≤ b) (hX : ∀ b, X b → b < W.heap.size ∧ ¬ Fm b ∧ ¬ Fr b) (hw : Below w.heap.size w W)
    {Fm' : Nat → Prop} {L' : Lay} {st' : Chip} (hC' : ChipR W' Fm' Fr c st' L') (hk : Kept Fm W W') (hF : ∀ x, Fm' x → Fm x ∨ W.heap.size ≤ x) : Has w W' X c st' ∧ Same X W W' := by
  refine ⟨⟨Fm', Fr, L', hC', fun b hb => ?_, fun b hb => ⟨Nat.lt_of_lt_of_le (hX b hb).1 hk.size, fun hf => ?_, (hX b hb).2.2⟩, hw.trans (hk.below (fun b hb => hge b (.inl hb)) hw.size)⟩, hk.same (fun b hb => ⟨(hX b hb).1, (hX b hb).2.1⟩)⟩
  · rcases hb with hb | hb
    · rcases hF b hb with h | h
      · exact hge b (.inl h)
      · exact Nat.le_trans hw.size h
    · exact hge b (.inr hb)
  · rcases hF b hf with h | h
    · exact (hX b hb).2.1 h
    · have := (hX b hb).1; omega
theorem has_program (h : Has w W X c st) (hf : st.fits) (ho : st.ops < 1000000) (n page : Int) (pg : List UInt8) (hp : pg.length = 288) :
    Calls Try.prog 27 #[.pointer (some ⟨c, 0, none⟩), .int .i64 n, .int .i64 page, pgV pg] W (HasRes w W X c (.int .i64 (st.program n page pg).1) (st.program n page pg).2) := by
  obtain ⟨Fm, Fr, L, hC, hge, hX, hw⟩ := h
  refine (program_any hC hf ho n page pg hp).mono ?_
  rintro e W' ⟨Fm', L', rfl, h1, h2, h3⟩
  exact ⟨rfl, opRes_has (e := .returned .nilFunc) (r := (0, st)) hC hge hX hw h1 h2 h3⟩
theorem has_erase (h : Has w W X c st) (hf : st.fits) (ho : st.ops < 1000000) (hwe : ∀ i, i < st.bn → 0 ≤ (st.blk i).look.wear ∧ (st.blk i).look.wear < 1000000) (n : Int) :
    Calls Try.prog 26 #[.pointer (some ⟨c, 0, none⟩), .int .i64 n] W (HasRes w W X c (.int .i64 (st.erase n).1) (st.erase n).2) := by
  obtain ⟨Fm, Fr, L, hC, hge, hX, hw⟩ := h
  refine (erase_any hC hf ho hwe n).mono ?_
  rintro e W' ⟨Fm', L', rfl, h1, h2, h3⟩
  exact ⟨rfl, opRes_has (e := .returned .nilFunc) (r := (0, st)) hC hge hX hw h1 h2 h3⟩
theorem has_restart (h : Has w W X c st) : Calls Try.prog 24 #[.pointer (some ⟨c, 0, none⟩)] W (HasRes w W X c (.int .i64 0) { st with off := false }) := by
  obtain ⟨Fm, Fr, L, hC, hge, hX, hw⟩ := h
  refine (restart_any hC).mono ?_
  rintro e W' ⟨rfl, h1, h2⟩
  exact ⟨rfl, opRes_has (e := .returned .nilFunc) (r := (0, st)) hC hge hX hw h1 h2 (fun x hx => .inl hx)⟩
theorem has_does (h : Has w W X c st) (hf : st.fits) (ho : st.ops < 1000000) (hwe : ∀ i, i < st.bn → 0 ≤ (st.blk i).look.wear ∧ (st.blk i).look.wear < 1000000) (o : Cl) :
    Calls Try.prog 17 #[.pointer (some ⟨c, 0, none⟩), clV o] W (HasRes w W X c (.tuple #[pgV (st.does o).1.1, .int .i64 (st.does o).1.2]) (st.does o).2) := by
  obtain ⟨Fm, Fr, L, hC, hge, hX, hw⟩ := h
  refine (does_any hC hf ho hwe o).mono ?_
  rintro e W' ⟨Fm', L', rfl, h1, h2, h3⟩
  exact ⟨rfl, opRes_has (e := .returned .nilFunc) (r := (0, st)) hC hge hX hw h1 h2 h3⟩
theorem has_read (h : Has w W X c st) (n page : Int) : Calls Try.prog 29 #[.pointer (some ⟨c, 0, none⟩), .int .i64 n, .int .i64 page] W fun e W' => e = .returned (.tuple #[pgV (st.readAt n page).1, .int .i64 (st.readAt n page).2]) ∧ Below W.heap.size W W' := by
  obtain ⟨Fm, Fr, L, hC, hge, hX, hw⟩ := h; exact read_any hC n page
theorem has_look (h : Has w W X c st) (n : Int) : Calls Try.prog 15 #[.pointer (some ⟨c, 0, none⟩), .int .i64 n] W fun e W' => e = .returned (.tuple #[lookV (st.lookAt n).1, .int .i64 (st.lookAt n).2]) ∧ Below W.heap.size W W' := by
  obtain ⟨Fm, Fr, L, hC, hge, hX, hw⟩ := h; exact look_any hC n
theorem has_ops (h : Has w W X c st) : Calls Try.prog 18 #[.pointer (some ⟨c, 0, none⟩)] W (ValQ (.int .i64 st.ops) W) := by
  obtain ⟨Fm, Fr, L, hC, hge, hX, hw⟩ := h; exact ops_any hC
theorem has_on (h : Has w W X c st) : Calls Try.prog 16 #[.pointer (some ⟨c, 0, none⟩)] W (ValQ (.bool (!st.off)) W) := by
  obtain ⟨Fm, Fr, L, hC, hge, hX, hw⟩ := h; exact on_any hC
theorem has_geo (h : Has w W X c st) : Calls Try.prog 13 #[.pointer (some ⟨c, 0, none⟩)] W fun e W' => e = .returned (.agg #[.int .i64 st.bn, .int .i64 st.pn]) ∧ Below W.heap.size W W' := by
  obtain ⟨Fm, Fr, L, hC, hge, hX, hw⟩ := h; exact geo_any hC
end
/-- New, to a law. -/
def HasNew (w W : World) (r : Except Int Chip) (e : Ending) (W' : World) : Prop :=
  Below W.heap.size W W' ∧ match r with
  | .error n => e = .returned (.tuple #[.pointer none, .int .i64 n])
  | .ok st => ∃ c, e = .returned (.tuple #[.pointer (some ⟨c, 0, none⟩), .int .i64 0]) ∧ ∀ X : Nat → Prop, (∀ b, X b → b < W.heap.size) → Has w W' X c st
theorem has_new (bn pn : Int) (bad : List Int) (evs : List Ev) (bv ev : Value) (w W : World) (hW : Below w.heap.size w W) (hbl : bad.length ≤ 9223372036854775807) (hel : evs.length ≤ 1048576) (hbad : IntS W W.heap.size bv bad) (hev : EvS W (fun b => b < W.heap.size) ev evs) :
    Calls Try.prog 10 #[.agg #[.int .i64 bn, .int .i64 pn], bv, ev] W (HasNew w W (newChip bn pn bad evs)) := by
  refine (new_any bn pn bad evs bv ev W hbl hel hbad hev).mono ?_
  intro e W' h
  unfold NewRes at h
  unfold HasNew
  cases hr : newChip bn pn bad evs with
  | error n => rw [hr] at h; exact ⟨h.2, h.1⟩
  | ok st =>
    rw [hr] at h
    obtain ⟨c, Fm, Fr, L, rfl, hC, hge, hb⟩ := h
    exact ⟨hb, c, rfl, fun X hX => ⟨Fm, Fr, L, hC, fun b hf => Nat.le_trans hW.size (hge b hf), fun b hx => ⟨Nat.lt_of_lt_of_le (hX b hx) hb.size, fun hf => by have := hge b (.inl hf); have := hX b hx; omega, fun hf => by have := hge b (.inr hf); have := hX b hx; omega⟩, hW.trans (hb.mono hW.size)⟩⟩
end Go.Proofs.Ytlgjlhgdpiipbaa
