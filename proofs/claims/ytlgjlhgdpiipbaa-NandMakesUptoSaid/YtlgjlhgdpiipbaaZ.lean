/- What calls make of a chip, plainly. -/
import Derived.Test.YtlgjlhgdpiipbaaX
namespace Go.Proofs.Ytlgjlhgdpiipbaa
open Go.RowKit
theorem asks_off {st : Chip} {n p : Int} (h : st.off = true) : st.asks n p = 8 := by unfold Chip.asks; rw [if_pos h]
theorem asks_on {st : Chip} {n p : Int} (h : st.off = false) : st.asks n p = 0 ∨ st.asks n p = 22 := by
  unfold Chip.asks
  rw [if_neg (by rw [h]; decide)]
  split
  · exact .inr rfl
  · exact .inl rfl
theorem nextEv_ops (st : Chip) : st.nextEv.2.ops = st.ops + 1 ∧ st.nextEv.2.off = st.off := by
  unfold Chip.nextEv
  rcases st.evs with _ | ⟨e, r⟩
  · exact ⟨rfl, rfl⟩
  · simp only
    split <;> exact ⟨rfl, rfl⟩
theorem nextEv_evs (st : Chip) (h : st.fits) : st.nextEv.2.fits := by
  unfold Chip.nextEv Chip.fits at *
  rcases he : st.evs with _ | ⟨e, r⟩
  · intro e h'; rw [he] at h; exact h e h'
  · simp only
    rw [he] at h
    split
    · intro e' h'; exact h e' (List.mem_cons_of_mem _ h')
    · intro e' h'
      exact h e' (by simpa [he] using h')
/-- How an operation ends. -/
theorem ends_law (st : Chip) (k : Int) : (st.ends k).2.2.blk = st.blk ∧ (st.ends k).2.2.bn = st.bn ∧ (st.ends k).2.2.pn = st.pn ∧ (st.ends k).2.2.evs = st.evs ∧ (st.ends k).2.2.ops = st.ops ∧
    (((st.ends k).1 = 0 ∧ (st.ends k).2.2.off = st.off ∧ k ≠ 2 ∧ k ≠ 1) ∨ ((st.ends k).1 = 25 ∧ (st.ends k).2.2.off = st.off ∧ k = 1) ∨ ((st.ends k).1 = 8 ∧ (st.ends k).2.2.off = true ∧ k = 2)) := by
  unfold Chip.ends
  split
  · rename_i h; exact ⟨rfl, rfl, rfl, rfl, rfl, .inr (.inr ⟨rfl, rfl, h⟩)⟩
  · split
    · rename_i h; exact ⟨rfl, rfl, rfl, rfl, rfl, .inr (.inl ⟨rfl, rfl, h⟩)⟩
    · rename_i h h'; exact ⟨rfl, rfl, rfl, rfl, rfl, .inl ⟨rfl, rfl, h, h'⟩⟩
/-- An operation took place, on a block. -/
structure Took (st st' : Chip) (i : Nat) (a : Int) : Prop where
  lt : i < st.bn
  on : st.off = false
  bn : st'.bn = st.bn
  pn : st'.pn = st.pn
  ops : st'.ops = st.ops + 1
  fits : st.fits → st'.fits
  other : ∀ x, x ≠ i → st'.blk x = st.blk x
  good : (st.blk i).look.bad = false
  ans : (a = 0 ∧ st'.off = false) ∨ (a = 25 ∧ st'.off = false) ∨ (a = 8 ∧ st'.off = true)
/-- An operation was refused. -/
def Refused (st : Chip) (a : Int) : Prop := (a = 8 ∧ st.off = true) ∨ (st.off = false ∧ (a = 22 ∨ a = 23 ∨ a = 24))
theorem program_law (st : Chip) (n page : Int) (pg : List UInt8) :
    ((st.program n page pg).2 = st ∧ Refused st (st.program n page pg).1) ∨
    ∃ i j : Nat, n = i ∧ page = j ∧ j < st.pn ∧ (st.blk i).look.next ≤ j ∧ Took st (st.program n page pg).2 i (st.program n page pg).1 ∧
      ((st.program n page pg).2.blk i).look = { (st.blk i).look with next := (j : Int) + 1 } ∧
      ((st.program n page pg).2.blk i).pages = fun x => if x = j then mask pg st.nextEv.1.mask else (st.blk i).pages x := by
  by_cases h0 : st.asks n page = 0
  case neg =>
    left
    have e : st.program n page pg = (st.asks n page, st) := by unfold Chip.program; rw [if_pos h0]
    rw [e]
    refine ⟨rfl, ?_⟩
    rcases ho : st.off with _ | _
    · rcases asks_on (n := n) (p := page) ho with h | h
      · exact absurd h h0
      · exact .inr ⟨ho, .inl h⟩
    · exact .inl ⟨asks_off ho, ho⟩
  obtain ⟨ho, _, i, j, rfl, hi, rfl, hj⟩ := Chip.asks_ok h0
  rcases hb : (st.blk i).look.bad with _ | _
  case true =>
    left
    have e : st.program (i : Int) (j : Int) pg = (23, st) := by unfold Chip.program; rw [if_neg (by simpa using h0)]; exact if_pos hb
    rw [e]
    exact ⟨rfl, .inr ⟨ho, .inr (.inl rfl)⟩⟩
  by_cases hlt : (j : Int) < (st.blk i).look.next
  · left
    have e : st.program (i : Int) (j : Int) pg = (24, st) := by unfold Chip.program; rw [if_neg (by simpa using h0)]; show (if (st.blk i).look.bad = true then _ else _) = _; rw [if_neg (by rw [hb]; decide)]; exact if_pos hlt
    rw [e]
    exact ⟨rfl, .inr ⟨ho, .inr (.inr rfl)⟩⟩
  right
  refine ⟨i, j, rfl, rfl, hj, by omega, ?_⟩
  obtain ⟨s1, hs1⟩ : ∃ s, st.nextEv.2.setPage i j (mask pg st.nextEv.1.mask) = s := ⟨_, rfl⟩
  obtain ⟨s2, hs2⟩ : ∃ s, s1.setLook i { (s1.blk i).look with next := (j : Int) + 1 } = s := ⟨_, rfl⟩
  have e : st.program (i : Int) (j : Int) pg = ((s2.ends st.nextEv.1.kind).1, (s2.ends st.nextEv.1.kind).2.2) := by
    unfold Chip.program
    rw [if_neg (by simpa using h0)]
    show (if (st.blk i).look.bad = true then _ else _) = _
    rw [if_neg (by rw [hb]; decide)]
    show (if (j : Int) < (st.blk i).look.next then _ else _) = _
    rw [if_neg hlt, ← hs2, ← hs1]
    rfl
  rw [e]
  obtain ⟨k1, k2, k3, k4, k5, k6⟩ := ends_law s2 st.nextEv.1.kind
  obtain ⟨n1, n2, n3⟩ := nextEv_blk st
  obtain ⟨m1, m2⟩ := nextEv_ops st
  have b2 : ∀ x, s2.blk x = if x = i then ⟨fun y => if y = j then mask pg st.nextEv.1.mask else (st.blk i).pages y, { (st.blk i).look with next := (j : Int) + 1 }⟩ else st.blk x := by
    intro x
    rw [← hs2, ← hs1]
    unfold Chip.setLook Chip.setPage Chip.setBlk
    dsimp only
    by_cases hx : x = i
    · subst hx; simp [n1]
    · simp [hx, n1]
  have ro : s2.off = st.off := by rw [← hs2, ← hs1]; exact m2
  refine ⟨⟨hi, ho, ?_, ?_, ?_, ?_, fun x hx => ?_, hb, ?_⟩, ?_, ?_⟩
  · show (s2.ends _).2.2.bn = _; rw [k2, ← hs2, ← hs1]; exact n2
  · show (s2.ends _).2.2.pn = _; rw [k3, ← hs2, ← hs1]; exact n3
  · show (s2.ends _).2.2.ops = _; rw [k5, ← hs2, ← hs1]; exact m1
  · intro hf
    unfold Chip.fits
    show ∀ e ∈ (s2.ends _).2.2.evs, _
    rw [k4, ← hs2, ← hs1]
    exact nextEv_evs st hf
  · show (s2.ends _).2.2.blk x = _; rw [k1, b2, if_neg hx]
  · rcases k6 with ⟨h1, h2, _⟩ | ⟨h1, h2, _⟩ | ⟨h1, h2, _⟩
    · exact .inl ⟨h1, by rw [h2, ro, ho]⟩
    · exact .inr (.inl ⟨h1, by rw [h2, ro, ho]⟩)
    · exact .inr (.inr ⟨h1, h2⟩)
  · show ((s2.ends _).2.2.blk i).look = _; rw [k1, b2, if_pos rfl]
  · show ((s2.ends _).2.2.blk i).pages = _; rw [k1, b2, if_pos rfl]
end Go.Proofs.Ytlgjlhgdpiipbaa
