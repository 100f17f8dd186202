/- What Erase makes of a chip; what holds behind any calls. -/
import Derived.Test.YtlgjlhgdpiipbaaZ
namespace Go.Proofs.Ytlgjlhgdpiipbaa
open Go.RowKit
theorem judged_law (st : Chip) (i : Nat) (k : Int) : (∀ x, x ≠ i → (st.judged i k).2.blk x = st.blk x) ∧ ((st.judged i k).2.blk i).pages = (st.blk i).pages ∧ ((st.judged i k).2.blk i).look.wear = (st.blk i).look.wear ∧ ((st.judged i k).2.blk i).look.next = (st.blk i).look.next ∧
    (st.judged i k).2.bn = st.bn ∧ (st.judged i k).2.pn = st.pn ∧ (st.judged i k).2.evs = st.evs ∧ (st.judged i k).2.ops = st.ops ∧
    (((st.judged i k).1 = 0 ∧ (st.judged i k).2.off = st.off ∧ ((st.judged i k).2.blk i).look.bad = false) ∨ ((st.judged i k).1 = 25 ∧ (st.judged i k).2.off = st.off ∧ ((st.judged i k).2.blk i).look.bad = true) ∨ ((st.judged i k).1 = 8 ∧ (st.judged i k).2.off = true ∧ ((st.judged i k).2.blk i).look.bad = false)) := by
  have e : ∀ x, (st.judged i k).2.blk x = if x = i then ⟨(st.blk i).pages, { (st.blk i).look with bad := (st.ends k).2.1 }⟩ else st.blk x := by
    intro x
    unfold Chip.judged Chip.setLook Chip.setBlk
    dsimp only
    rw [(ends_law st k).1]
  refine ⟨fun x hx => by rw [e, if_neg hx], by rw [e, if_pos rfl], by rw [e, if_pos rfl], by rw [e, if_pos rfl], ?_⟩
  rw [e, if_pos rfl]
  dsimp only
  unfold Chip.judged Chip.setLook Chip.setBlk Chip.ends
  split
  · exact ⟨rfl, rfl, rfl, rfl, .inr (.inr ⟨rfl, rfl, rfl⟩)⟩
  · split
    · exact ⟨rfl, rfl, rfl, rfl, .inr (.inl ⟨rfl, rfl, rfl⟩)⟩
    · exact ⟨rfl, rfl, rfl, rfl, .inl ⟨rfl, rfl, rfl⟩⟩
theorem torn_law (st : Chip) (i : Nat) (m : List UInt8) : (∀ x, x ≠ i → (st.torn i m).blk x = st.blk x) ∧ ((st.torn i m).blk i).pages = st.laid i (mask (allOf (st.blk i).pages st.pn) m) ∧ ((st.torn i m).blk i).look = { (st.blk i).look with next := st.pn } ∧
    (st.torn i m).bn = st.bn ∧ (st.torn i m).pn = st.pn ∧ (st.torn i m).evs = st.evs ∧ (st.torn i m).ops = st.ops ∧ (st.torn i m).off = st.off := by
  have e : ∀ x, (st.torn i m).blk x = if x = i then ⟨st.laid i (mask (allOf (st.blk i).pages st.pn) m), { (st.blk i).look with next := st.pn }⟩ else st.blk x := by
    intro x
    unfold Chip.torn Chip.setPages Chip.setLook Chip.setBlk
    dsimp only
    by_cases hx : x = i
    · simp [hx]
    · simp [hx]
  exact ⟨fun x hx => by rw [e, if_neg hx], by rw [e, if_pos rfl], by rw [e, if_pos rfl], rfl, rfl, rfl, rfl, rfl⟩
theorem cleared_law (st : Chip) (i : Nat) : (∀ x, x ≠ i → (st.cleared i).blk x = st.blk x) ∧ ((st.cleared i).blk i).pages = st.wiped i ∧ ((st.cleared i).blk i).look = { (st.blk i).look with next := 0 } ∧
    (st.cleared i).bn = st.bn ∧ (st.cleared i).pn = st.pn ∧ (st.cleared i).evs = st.evs ∧ (st.cleared i).ops = st.ops ∧ (st.cleared i).off = st.off := by
  have e : ∀ x, (st.cleared i).blk x = if x = i then ⟨st.wiped i, { (st.blk i).look with next := 0 }⟩ else st.blk x := by
    intro x
    unfold Chip.cleared Chip.setPages Chip.setLook Chip.setBlk
    dsimp only
    by_cases hx : x = i
    · simp [hx]
    · simp [hx]
  exact ⟨fun x hx => by rw [e, if_neg hx], by rw [e, if_pos rfl], by rw [e, if_pos rfl], rfl, rfl, rfl, rfl, rfl⟩
theorem worn_law (st : Chip) (i : Nat) : (∀ x, x ≠ i → (st.worn i).blk x = st.blk x) ∧ ((st.worn i).blk i).pages = (st.blk i).pages ∧ ((st.worn i).blk i).look = { (st.blk i).look with wear := (st.blk i).look.wear + 1 } ∧
    (st.worn i).bn = st.bn ∧ (st.worn i).pn = st.pn ∧ (st.worn i).evs = st.evs ∧ (st.worn i).ops = st.ops ∧ (st.worn i).off = st.off := by
  have e : ∀ x, (st.worn i).blk x = if x = i then ⟨(st.blk i).pages, { (st.blk i).look with wear := (st.blk i).look.wear + 1 }⟩ else st.blk x := by
    intro x
    unfold Chip.worn Chip.setLook Chip.setBlk
    dsimp only
  exact ⟨fun x hx => by rw [e, if_neg hx], by rw [e, if_pos rfl], by rw [e, if_pos rfl], rfl, rfl, rfl, rfl, rfl⟩
theorem erase_law (st : Chip) (n : Int) :
    ((st.erase n).2 = st ∧ Refused st (st.erase n).1) ∨
    ∃ i : Nat, n = i ∧ Took st (st.erase n).2 i (st.erase n).1 ∧ ((st.erase n).2.blk i).look.wear = (st.blk i).look.wear + 1 ∧
      ((st.nextEv.1.kind = 0 ∧ (st.erase n).1 = 0 ∧ ((st.erase n).2.blk i).look.next = 0 ∧ ((st.erase n).2.blk i).look.bad = false ∧ ∀ x, x < st.pn → ((st.erase n).2.blk i).pages x = rep 288 255) ∨
       (st.nextEv.1.kind ≠ 0 ∧ ((st.erase n).2.blk i).look.next = st.pn ∧ ((st.erase n).2.blk i).pages = st.laid i (mask (allOf (st.blk i).pages st.pn) st.nextEv.1.mask))) := by
  by_cases h0 : st.asks n 0 = 0
  case neg =>
    left
    have e : st.erase n = (st.asks n 0, st) := by unfold Chip.erase; rw [if_pos h0]
    rw [e]
    refine ⟨rfl, ?_⟩
    rcases ho : st.off with _ | _
    · rcases asks_on (n := n) (p := 0) ho with h | h
      · exact absurd h h0
      · exact .inr ⟨ho, .inl h⟩
    · exact .inl ⟨asks_off ho, ho⟩
  obtain ⟨ho, _, i, j, rfl, hi, hj0, hj⟩ := Chip.asks_ok h0
  rcases hb : (st.blk i).look.bad with _ | _
  case true =>
    left
    have e : st.erase (i : Int) = (23, st) := by unfold Chip.erase; rw [if_neg (by simpa using h0)]; exact if_pos hb
    rw [e]
    exact ⟨rfl, .inr ⟨ho, .inr (.inl rfl)⟩⟩
  right
  refine ⟨i, rfl, ?_⟩
  obtain ⟨n1, n2, n3⟩ := nextEv_blk st
  obtain ⟨m1, m2⟩ := nextEv_ops st
  obtain ⟨w1, w2, w3, w4, w5, w6, w7, w8⟩ := worn_law st.nextEv.2 i
  have e : st.erase (i : Int) = if st.nextEv.1.kind ≠ 0 then ((st.nextEv.2.worn i).torn i st.nextEv.1.mask).judged i st.nextEv.1.kind else (0, (st.nextEv.2.worn i).cleared i) := by
    unfold Chip.erase
    rw [if_neg (by simpa using h0)]
    show (if (st.blk i).look.bad = true then _ else _) = _
    rw [if_neg (by rw [hb]; decide)]
    rfl
  by_cases hk : st.nextEv.1.kind = 0
  · rw [e, if_neg (by simpa using hk)]
    obtain ⟨c1, c2, c3, c4, c5, c6, c7, c8⟩ := cleared_law (st.nextEv.2.worn i) i
    refine ⟨⟨hi, ho, c4.trans (w4.trans n2), c5.trans (w5.trans n3), c7.trans (w7.trans m1), fun hf => ?_, fun x hx => ?_, hb, .inl ⟨rfl, (c8.trans (w8.trans m2)).trans ho⟩⟩, ?_, .inl ⟨hk, rfl, ?_, ?_, fun x hx => ?_⟩⟩
    · unfold Chip.fits; rw [c6, w6]; exact nextEv_evs st hf
    · rw [c1 x hx, w1 x hx, n1]
    · rw [c3, w3, n1]
    · rw [c3]
    · rw [c3, w3, n1]; exact hb
    · rw [c2]; unfold Chip.wiped; rw [w5, n3, if_pos hx]
  · rw [e, if_pos hk]
    obtain ⟨t1, t2, t3, t4, t5, t6, t7, t8⟩ := torn_law (st.nextEv.2.worn i) i st.nextEv.1.mask
    obtain ⟨j1, j2, j3, j4, j5, j6, j7, j8, j9⟩ := judged_law ((st.nextEv.2.worn i).torn i st.nextEv.1.mask) i st.nextEv.1.kind
    have hoff : ((st.nextEv.2.worn i).torn i st.nextEv.1.mask).off = false := t8.trans ((w8.trans m2).trans ho)
    refine ⟨⟨hi, ho, j5.trans (t4.trans (w4.trans n2)), j6.trans (t5.trans (w5.trans n3)), j8.trans (t7.trans (w7.trans m1)), fun hf => ?_, fun x hx => ?_, hb, ?_⟩, ?_, .inr ⟨hk, ?_, ?_⟩⟩
    · unfold Chip.fits; rw [j7, t6, w6]; exact nextEv_evs st hf
    · rw [j1 x hx, t1 x hx, w1 x hx, n1]
    · rcases j9 with ⟨h1, h2, _⟩ | ⟨h1, h2, _⟩ | ⟨h1, h2, _⟩
      · exact .inl ⟨h1, h2.trans hoff⟩
      · exact .inr (.inl ⟨h1, h2.trans hoff⟩)
      · exact .inr (.inr ⟨h1, h2⟩)
    · rw [j3, t3, w3, n1]
    · rw [j4, t3, w5, n3]
    · rw [j2, t2]
      unfold Chip.laid
      rw [w2, w5, n1, n3]
/-- What holds behind N calls at most. -/
structure Chip.Good (N : Int) (st : Chip) : Prop where
  fits : st.fits
  ops : 0 ≤ st.ops ∧ st.ops ≤ N
  wear : ∀ i, i < st.bn → 0 ≤ (st.blk i).look.wear ∧ (st.blk i).look.wear ≤ N
  next : ∀ i, i < st.bn → 0 ≤ (st.blk i).look.next ∧ (st.blk i).look.next ≤ st.pn
theorem Chip.Good.mono {N M : Int} {st : Chip} (h : st.Good N) (hm : N ≤ M) : st.Good M :=
  ⟨h.fits, ⟨h.ops.1, by have := h.ops.2; omega⟩, fun i hi => ⟨(h.wear i hi).1, by have := (h.wear i hi).2; omega⟩, h.next⟩
theorem Chip.Good.took {N : Int} {st st' : Chip} {i : Nat} {a : Int} (h : st.Good N) (t : Took st st' i a) (hw : (st.blk i).look.wear ≤ (st'.blk i).look.wear ∧ (st'.blk i).look.wear ≤ (st.blk i).look.wear + 1) (hn : 0 ≤ (st'.blk i).look.next ∧ (st'.blk i).look.next ≤ st.pn) : st'.Good (N + 1) := by
  refine ⟨t.fits h.fits, ?_, fun x hx => ?_, fun x hx => ?_⟩
  · rw [t.ops]; have := h.ops; omega
  · rw [t.bn] at hx
    have := h.wear x hx
    by_cases e : x = i
    · subst e; omega
    · rw [t.other x e]; omega
  · rw [t.bn] at hx
    rw [t.pn]
    have := h.next x hx
    by_cases e : x = i
    · subst e; exact hn
    · rw [t.other x e]; exact this
theorem program_good {N : Int} {st : Chip} (h : st.Good N) (n page : Int) (pg : List UInt8) : (st.program n page pg).2.Good (N + 1) := by
  rcases program_law st n page pg with ⟨e, _⟩ | ⟨i, j, _, _, hj, _, t, hl, _⟩
  · rw [e]; exact h.mono (by omega)
  · refine h.took t ?_ ?_
    · rw [hl]; dsimp only; omega
    · rw [hl]; dsimp only; omega
theorem erase_good {N : Int} {st : Chip} (h : st.Good N) (n : Int) : (st.erase n).2.Good (N + 1) := by
  rcases erase_law st n with ⟨e, _⟩ | ⟨i, _, t, hw, hc⟩
  · rw [e]; exact h.mono (by omega)
  · refine h.took t (by omega) ?_
    rcases hc with ⟨_, _, h1, _⟩ | ⟨_, h1, _⟩ <;> omega
theorem does_good {N : Int} {st : Chip} (h : st.Good N) (o : Cl) : (st.does o).2.Good (N + 1) := by
  unfold Chip.does
  split
  · exact program_good h _ _ _
  · split
    · exact erase_good h _
    · split
      · exact h.mono (by omega)
      · split
        · exact ⟨h.fits, ⟨h.ops.1, by have := h.ops.2; show st.ops ≤ N + 1; omega⟩, fun i hi => ⟨(h.wear i hi).1, by have := (h.wear i hi).2; show (st.blk i).look.wear ≤ N + 1; omega⟩, h.next⟩
        · exact h.mono (by omega)
theorem does_geo (st : Chip) (o : Cl) : (st.does o).2.bn = st.bn ∧ (st.does o).2.pn = st.pn := by
  unfold Chip.does
  split
  · rcases program_law st o.blk (st.pageOf o) (rep 288 o.fill) with ⟨e, _⟩ | ⟨_, _, _, _, _, _, t, _⟩
    · dsimp only; rw [e]; exact ⟨rfl, rfl⟩
    · exact ⟨t.bn, t.pn⟩
  · split
    · rcases erase_law st o.blk with ⟨e, _⟩ | ⟨_, _, t, _⟩
      · dsimp only; rw [e]; exact ⟨rfl, rfl⟩
      · exact ⟨t.bn, t.pn⟩
    · split
      · exact ⟨rfl, rfl⟩
      · split <;> exact ⟨rfl, rfl⟩
theorem fresh_good {bn pn : Int} {bad : List Int} {evs : List Ev} {st : Chip} (h : newChip bn pn bad evs = .ok st) : st.Good 0 := by
  unfold newChip at h
  split at h
  · split at h
    · cases h
    · split at h
      · rename_i hm
        cases h
        exact ⟨mayFrom_mask hm, ⟨Int.le_refl _, Int.le_refl _⟩, fun i hi => ⟨Int.le_refl _, Int.le_refl _⟩, fun i hi => ⟨Int.le_refl _, by show (0 : Int) ≤ _; omega⟩⟩
      · cases h
  · cases h
end Go.Proofs.Ytlgjlhgdpiipbaa
