/- NandStays, plainly: a page is changed by no call but one on it, or an erase of its block. -/
import Derived.Test.YtlgjlhgdpiipbaaZl
namespace Go.Proofs.Ytlgjlhgdpiipbaa
open Go.RowKit
/-- Events fail or cut. -/
def Chip.kinds (st : Chip) : Prop := ∀ e ∈ st.evs, e.kind = 1 ∨ e.kind = 2
theorem mayFrom_kinds : ∀ {evs : List Ev} {last : Int}, mayFrom last evs = true → ∀ e ∈ evs, e.kind = 1 ∨ e.kind = 2
  | [], _, _, e, he => by simp at he
  | a :: r, last, h, e, he => by
    by_cases ha : evOk last a
    · rw [mayFrom_yes ha] at h
      rcases List.mem_cons.1 he with rfl | he
      · exact ha.2.1
      · exact mayFrom_kinds h e he
    · rw [mayFrom_no ha] at h; cases h
theorem fresh_kinds {bn pn : Int} {bad : List Int} {evs : List Ev} {st : Chip} (h : newChip bn pn bad evs = .ok st) : st.kinds := by
  unfold newChip at h
  split at h
  · split at h
    · cases h
    · split at h
      · rename_i hm
        cases h
        exact mayFrom_kinds hm
      · cases h
  · cases h
theorem newChip_err {bn pn : Int} {bad : List Int} {evs : List Ev} {e : Int} (h : newChip bn pn bad evs = .error e) : ¬ e = 0 := by
  unfold newChip at h
  split at h
  · split at h
    · cases h; decide
    · split at h
      · cases h
      · cases h; decide
  · cases h; decide
theorem EvS.mono {W : World} {R R' : Nat → Prop} {v : Value} {evs : List Ev} (h : EvS W R v evs) (hR : ∀ b, R b → R' b) : EvS W R' v evs := by
  obtain ⟨a, cap, h1, h2, h3⟩ := h
  refine ⟨a, cap, h1, h2, fun j e he => ?_⟩
  obtain ⟨b, o, mv, k1, k2, k3, k4, k5, k6, k7⟩ := h3 j e he
  exact ⟨b, o, mv, k1, k2, hR b k3, k4, k5, k6, fun W2 h2 => k7 W2 ⟨fun x hx => h2.1 x (hR x hx), h2.2⟩⟩
theorem nextEv_sub (st : Chip) : ∀ e ∈ st.nextEv.2.evs, e ∈ st.evs := by
  rcases he : st.evs with _ | ⟨a, r⟩
  · rw [Chip.nextEv_nil he]; intro e h; rw [← he]; exact h
  · by_cases ha : a.at_ = st.ops + 1
    · rw [Chip.nextEv_yes he ha]; intro e h; exact List.mem_cons_of_mem _ h
    · rw [Chip.nextEv_no he ha]; intro e h; rw [← he]; exact h
theorem nextEv_kind {st : Chip} (hk : st.kinds) : st.nextEv.1 = zeroEv ∨ st.nextEv.1.kind = 1 ∨ st.nextEv.1.kind = 2 := by
  unfold Chip.nextEv
  rcases he : st.evs with _ | ⟨a, r⟩
  · exact .inl rfl
  · simp only
    split
    · exact .inr (hk a (by rw [he]; exact List.mem_cons_self ..))
    · exact .inl rfl
theorem program_evs (st : Chip) (n p : Int) (pg : List UInt8) : ∀ e ∈ (st.program n p pg).2.evs, e ∈ st.evs := by
  unfold Chip.program
  split
  · exact fun e h => h
  · split
    · exact fun e h => h
    · split
      · exact fun e h => h
      · intro e h
        rw [show ∀ s : Chip, (s.ends st.nextEv.1.kind).2.2.evs = s.evs from fun s => (ends_law s _).2.2.2.1] at h
        exact nextEv_sub st e h
theorem erase_evs (st : Chip) (n : Int) : ∀ e ∈ (st.erase n).2.evs, e ∈ st.evs := by
  unfold Chip.erase
  split
  · exact fun e h => h
  · split
    · exact fun e h => h
    · split
      · intro e h
        rw [(judged_law _ _ _).2.2.2.2.2.2.1, (torn_law _ _ _).2.2.2.2.2.1, (worn_law _ _).2.2.2.2.2.1] at h
        exact nextEv_sub st e h
      · intro e h
        rw [(cleared_law _ _).2.2.2.2.2.1, (worn_law _ _).2.2.2.2.2.1] at h
        exact nextEv_sub st e h
theorem does_kinds {st : Chip} (h : st.kinds) (o : Cl) : (st.does o).2.kinds := by
  have : ∀ e ∈ (st.does o).2.evs, e ∈ st.evs := by
    unfold Chip.does
    split
    · exact program_evs st _ _ _
    split
    · exact erase_evs st _
    split
    · exact fun e h => h
    split <;> exact fun e h => h
  exact fun e he => h e (this e he)
theorem program_zero {st : Chip} (hk : st.kinds) {n p : Int} {pg : List UInt8} (h : (st.program n p pg).1 = 0) : st.nextEv.1.mask = [] := by
  unfold Chip.program at h
  split at h
  · rename_i h0; exact absurd h h0
  split at h
  · exact absurd h (by show ¬ (23 : Int) = 0; decide)
  split at h
  · exact absurd h (by show ¬ (24 : Int) = 0; decide)
  dsimp only at h
  rcases nextEv_kind hk with e | e
  · rw [e]; rfl
  · rcases (ends_law ((st.nextEv.2.setPage n.toNat p.toNat (mask pg st.nextEv.1.mask)).setLook n.toNat { ((st.nextEv.2.setPage n.toNat p.toNat (mask pg st.nextEv.1.mask)).blk n.toNat).look with next := p + 1 }) st.nextEv.1.kind).2.2.2.2.2 with ⟨_, _, h2, h3⟩ | ⟨h1, _⟩ | ⟨h1, _⟩
    · omega
    · rw [h1] at h; exact absurd h (by decide)
    · rw [h1] at h; exact absurd h (by decide)
theorem there_geo {st st' : Chip} (h : st'.bn = st.bn) (n : Int) : st'.there n = st.there n := by unfold Chip.there; rw [h]
theorem exec_eqi {ev : Operand → Value} {o : Oper} {W : World} (x y : Operand) (u : TypeId) (ho : o.op = Op.binOp .eql 3 x y u) (a b : Int) (hx : ev x = .int .i64 a) (hy : ev y = .int .i64 b) (v : Bool) (hv : decide (a = b) = v) : (execOp ev o).run Try.prog W = .ok (.value (.bool v)) W := by
  subst hv
  simp [execOp, ho, hx, hy, eqGuard, binOp, Result.andThen, go_sem]
  by_cases h : a = b <;> simp [h]
theorem exec_eqi27 {ev : Operand → Value} {o : Oper} {W : World} (x y : Operand) (u : TypeId) (ho : o.op = Op.binOp .eql 27 x y u) (a b : Int) (hx : ev x = .int .i64 a) (hy : ev y = .int .i64 b) (v : Bool) (hv : decide (a = b) = v) : (execOp ev o).run Try.prog W = .ok (.value (.bool v)) W := by
  subst hv
  simp [execOp, ho, hx, hy, eqGuard, binOp, Result.andThen, go_sem]
  by_cases h : a = b <;> simp [h]
theorem exec_nei {ev : Operand → Value} {o : Oper} {W : World} (x y : Operand) (u : TypeId) (ho : o.op = Op.binOp .neq 3 x y u) (a b : Int) (hx : ev x = .int .i64 a) (hy : ev y = .int .i64 b) (v : Bool) (hv : decide (a ≠ b) = v) : (execOp ev o).run Try.prog W = .ok (.value (.bool v)) W := by
  subst hv
  simp [execOp, ho, hx, hy, eqGuard, binOp, Result.andThen, go_sem]
  by_cases h : a = b <;> simp [h]
/-- A call on this page. -/
def Cl.on (o : Cl) (n : Int) (k : Nat) : Bool := decide (o.blk = n ∧ (o.do_ = 1 ∨ (o.do_ = 0 ∧ (k : Int) = o.page)))
theorem stays {st : Chip} (hk : st.kinds) (o : Cl) (hn : o.next = false) (n : Int) (i : Nat) (hi : n = i) (k : Nat) (hkp : k < st.pn) :
    (o.on n k = false → ((st.does o).2.blk i).pages k = (st.blk i).pages k) ∧ (o.on n k = true → o.do_ = 0 → (st.does o).1.2 = 0 → ((st.does o).2.blk i).pages k = rep 288 o.fill) := by
  have hp : st.pageOf o = o.page := by unfold Chip.pageOf; rw [hn]; rfl
  unfold Cl.on
  unfold Chip.does
  rw [hp]
  split
  · rename_i h0
    have h1 : ¬ o.do_ = 1 := by omega
    dsimp only
    rcases program_law st o.blk o.page (rep 288 o.fill) with ⟨e, hr⟩ | ⟨i', j, e1, e2, hj, _, t, _, hpg⟩
    · rw [e]
      refine ⟨fun _ => rfl, fun _ _ h => ?_⟩
      rcases hr with ⟨h2, _⟩ | ⟨_, h2 | h2 | h2⟩ <;> rw [h2] at h <;> exact absurd h (by decide)
    · by_cases hii : i = i'
      · subst hii
        rw [hpg]
        dsimp only
        refine ⟨fun hoff => ?_, fun hon _ hz => ?_⟩
        · have hne : k ≠ j := by
            rintro rfl
            exact of_decide_eq_false hoff ⟨by omega, .inr ⟨h0, e2.symm⟩⟩
          rw [if_neg hne]
        · have := of_decide_eq_true hon
          have hkj : k = j := by omega
          rw [if_pos hkj, program_zero hk hz, mask_nil]
      · rw [t.other i hii]
        refine ⟨fun _ => rfl, fun hon => ?_⟩
        have := of_decide_eq_true hon
        omega
  · rename_i h0
    split
    · rename_i h1
      dsimp only
      refine ⟨fun hoff => ?_, fun _ h => absurd h h0⟩
      rcases erase_law st o.blk with ⟨e, hr⟩ | ⟨i', e1, t, _, _⟩
      · rw [e]
      · have hne : i ≠ i' := by
          rintro rfl
          exact of_decide_eq_false hoff ⟨by omega, .inl h1⟩
        rw [t.other i hne]
    · split
      · exact ⟨fun _ => rfl, fun _ h => absurd h h0⟩
      · split <;> exact ⟨fun _ => rfl, fun _ h => absurd h h0⟩
/-- The same, of all pages of a block. -/
theorem stays_pages {st : Chip} (hk : st.kinds) (o : Cl) (hn : o.next = false) (n : Int) : ((st.does o).2.pagesOf n).length = (st.pagesOf n).length ∧
    ∀ (k : Nat) (h : k < (st.pagesOf n).length) (h' : k < ((st.does o).2.pagesOf n).length), (o.on n k = false → ((st.does o).2.pagesOf n)[k] = (st.pagesOf n)[k]) ∧ (o.on n k = true → o.do_ = 0 → (st.does o).1.2 = 0 → ((st.does o).2.pagesOf n)[k] = rep 288 o.fill) := by
  obtain ⟨hbn, hpn⟩ := does_geo st o
  have hth := there_geo (st := st) (st' := (st.does o).2) hbn n
  rcases ht : st.there n with _ | _
  · rw [pagesOf_no ht, pagesOf_no (hth.trans ht)]
    exact ⟨rfl, fun k h => absurd h (Nat.not_lt_zero _)⟩
  · obtain ⟨i, rfl, hi⟩ := Chip.there_nat ht
    rw [pagesOf_yes ht, pagesOf_yes (hth.trans ht), hpn]
    refine ⟨by simp, fun k h h' => ?_⟩
    have hkp : k < st.pn := by simpa using h
    simp only [List.getElem_map, List.getElem_range]
    exact stays hk o hn i i rfl k hkp
end Go.Proofs.Ytlgjlhgdpiipbaa
