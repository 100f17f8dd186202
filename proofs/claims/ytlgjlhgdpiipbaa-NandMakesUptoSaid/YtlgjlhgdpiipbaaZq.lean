/- NandCounts, plainly: operations, wears, pages in order. -/
import Derived.Test.YtlgjlhgdpiipbaaZn
import Derived.Maps.Views
import Derived.Maps.Own
import Derived.Maps.OwnOps
namespace Go.Proofs.Ytlgjlhgdpiipbaa
open Go.RowKit
/-- The wears of the first blocks, together. -/
def Chip.wearTo (s : Chip) : Nat → Int
  | 0 => 0
  | k + 1 => s.wearTo k + (s.blk k).look.wear
theorem wearTo_same {s s' : Chip} : ∀ k, (∀ x, x < k → (s'.blk x).look.wear = (s.blk x).look.wear) → s'.wearTo k = s.wearTo k
  | 0, _ => rfl
  | k + 1, h => by
    show s'.wearTo k + _ = s.wearTo k + _
    rw [wearTo_same k (fun x hx => h x (by omega)), h k (by omega)]
theorem wearTo_one {s s' : Chip} {i : Nat} (hi : (s'.blk i).look.wear = (s.blk i).look.wear + 1) : ∀ k, i < k → (∀ x, x < k → x ≠ i → (s'.blk x).look.wear = (s.blk x).look.wear) → s'.wearTo k = s.wearTo k + 1
  | 0, hk, _ => by omega
  | k + 1, hk, h => by
    show s'.wearTo k + _ = s.wearTo k + _ + 1
    by_cases e : i = k
    · subst e
      rw [wearTo_same i (fun x hx => h x (by omega) (by omega)), hi]
      omega
    · rw [wearTo_one hi k (by omega) (fun x hx hne => h x (by omega) hne), h k (by omega) (fun e2 => e e2.symm)]
      omega
theorem wearTo_bnd {s : Chip} {N : Int} (hg : s.Good N) (hN : 0 ≤ N) : ∀ k, k ≤ s.bn → 0 ≤ s.wearTo k ∧ s.wearTo k ≤ k * N
  | 0, _ => ⟨Int.le_refl _, by show (0 : Int) ≤ _; omega⟩
  | k + 1, hk => by
    have h1 := wearTo_bnd hg hN k (by omega)
    have h2 := hg.wear k (by omega)
    show 0 ≤ s.wearTo k + _ ∧ s.wearTo k + _ ≤ _
    have : ((k + 1 : Nat) : Int) * N = k * N + N := by
      rw [Int.natCast_add, Int.add_mul]; omega
    rw [this]
    omega
/-- What the law has counted. -/
structure Cnt (s : Chip) (ops er : Int) (f : Int → Int) : Prop where
  ops : s.ops = ops
  er : s.wearTo s.bn = er
  last : ∀ i : Nat, i < s.bn → f i ≤ (s.blk i).look.next
def upd (f : Int → Int) (b v : Int) : Int → Int := fun x => if x = b then v else f x
/-- Was it an operation? -/
def isOp (re : Int) (on off : Bool) : Bool := decide (re = 0) || (decide (re = 25) || (decide (re = 8) && (on && off)))
theorem isOp_refused {s : Chip} {a : Int} {off : Bool} (h : Refused s a) : isOp a (!s.off) off = false := by
  unfold isOp
  rcases h with ⟨rfl, h⟩ | ⟨h, rfl | rfl | rfl⟩
  · rw [h]; rfl
  · rfl
  · rfl
  · rfl
theorem isOp_took {s s' : Chip} {i : Nat} {a : Int} (h : Took s s' i a) : isOp a (!s.off) s'.off = true := by
  unfold isOp
  rcases h.ans with ⟨rfl, _⟩ | ⟨rfl, _⟩ | ⟨rfl, h2⟩
  · rfl
  · rfl
  · rw [h2, h.on]; rfl
theorem cnt_fresh {bn pn : Int} {bad : List Int} {evs : List Ev} {st : Chip} (h : newChip bn pn bad evs = .ok st) : Cnt st 0 0 (fun _ => 0) := by
  have hg := fresh_good h
  have hb := wearTo_bnd hg (Int.le_refl _) st.bn (Nat.le_refl _)
  exact ⟨by have := hg.ops; omega, by omega, fun i hi => (hg.next i hi).1⟩
/-- A call counts. -/
theorem cnt_does {s : Chip} {N ops er : Int} {f : Int → Int} (hg : s.Good N) (h : Cnt s ops er f) (q : Cl) (hn : q.next = false) :
    (isOp (s.does q).1.2 (!s.off) (s.does q).2.off = true → q.do_ = 0 → 0 ≤ q.blk ∧ q.blk < s.bn ∧ f q.blk ≤ q.page ∧ 0 ≤ q.page ∧ q.page < s.pn ∧ Cnt (s.does q).2 (ops + 1) er (upd f q.blk (q.page + 1))) ∧
    (isOp (s.does q).1.2 (!s.off) (s.does q).2.off = true → q.do_ = 1 → 0 ≤ q.blk ∧ q.blk < s.bn ∧ Cnt (s.does q).2 (ops + 1) (er + 1) (if (s.does q).1.2 = 0 then upd f q.blk 0 else f)) ∧
    (isOp (s.does q).1.2 (!s.off) (s.does q).2.off = false ∨ (q.do_ ≠ 0 ∧ q.do_ ≠ 1) → Cnt (s.does q).2 ops er f) := by
  have hp : s.pageOf q = q.page := by unfold Chip.pageOf; rw [hn]; rfl
  unfold Chip.does
  rw [hp]
  split
  · rename_i h0
    dsimp only
    rcases program_law s q.blk q.page (rep 288 q.fill) with ⟨e, hr⟩ | ⟨i, j, e1, e2, hj, hnx, t, hl, _⟩
    · rw [e]
      have hoff := isOp_refused (off := s.off) hr
      rw [hoff]
      exact ⟨fun h => absurd h (by decide), fun h => absurd h (by decide), fun _ => h⟩
    · have hon := isOp_took t
      rw [hon]
      have hfi := h.last i t.lt
      have hlt := t.lt
      refine ⟨fun _ _ => ⟨by omega, by omega, by rw [e1, e2]; omega, by omega, by omega, by rw [t.ops, h.ops], ?_, fun x hx => ?_⟩, fun _ h1 => by omega, fun hh => by rcases hh with hh | hh; cases hh; omega⟩
      · rw [t.bn, ← h.er]
        exact wearTo_same _ (fun x hx => by
          by_cases ex : x = i
          · subst ex; rw [hl]
          · rw [t.other x ex])
      · rw [t.bn] at hx
        unfold upd
        by_cases ex : x = i
        · subst ex
          rw [if_pos e1.symm, hl]
          dsimp only
          omega
        · rw [if_neg (by rw [e1]; omega), t.other x ex]
          exact h.last x hx
  · rename_i h0
    split
    · rename_i h1
      dsimp only
      rcases erase_law s q.blk with ⟨e, hr⟩ | ⟨i, e1, t, hw, hc⟩
      · rw [e]
        have hoff := isOp_refused (off := s.off) hr
        rw [hoff]
        exact ⟨fun h => absurd h (by decide), fun h => absurd h (by decide), fun _ => h⟩
      · have hon := isOp_took t
        rw [hon]
        have hfi := h.last i t.lt
        have hni := hg.next i t.lt
        have hlt := t.lt
        refine ⟨fun _ h2 => by omega, fun _ _ => ⟨by omega, by omega, by rw [t.ops, h.ops], ?_, fun x hx => ?_⟩, fun hh => by rcases hh with hh | hh; cases hh; omega⟩
        · rw [t.bn, ← h.er]
          exact wearTo_one hw _ t.lt (fun x hx hne => by rw [t.other x hne])
        · rw [t.bn] at hx
          by_cases ex : x = i
          · subst ex
            rcases hc with ⟨_, ha, hx0, _⟩ | ⟨_, hx0, _⟩
            · rw [if_pos ha, hx0]; unfold upd; rw [if_pos e1.symm]; exact Int.le_refl _
            · rw [hx0]
              split
              · unfold upd; rw [if_pos e1.symm]; omega
              · omega
          · rw [t.other x ex]
            have := h.last x hx
            split
            · unfold upd; rw [if_neg (by rw [e1]; omega)]; exact this
            · exact this
    · split
      · exact ⟨fun _ h2 => by omega, fun _ h2 => by omega, fun _ => h⟩
      · split
        · refine ⟨fun _ h2 => by omega, fun _ h2 => by omega, fun _ => ⟨h.ops, ?_, h.last⟩⟩
          rw [← h.er]
          exact wearTo_same (s := s) (s' := { s with off := false }) s.bn (fun _ _ => rfl)
        · exact ⟨fun _ h2 => by omega, fun _ h2 => by omega, fun _ => h⟩
theorem new_bn {bn pn : Int} {bad : List Int} {evs : List Ev} {st : Chip} (h : newChip bn pn bad evs = .ok st) : (st.bn : Int) = bn ∧ (st.pn : Int) = pn ∧ 4 ≤ pn ∧ pn ≤ 32 ∧ bn ≤ 256 := by
  unfold newChip at h
  split at h
  · rename_i hg
    obtain ⟨h1, h2, h3, h4, h5⟩ := hg
    split at h
    · cases h
    · split at h
      · cases h
        exact ⟨by show ((bn.toNat : Nat) : Int) = bn; omega, by show ((pn.toNat : Nat) : Int) = pn; omega, by omega, by omega, by omega⟩
      · cases h
  · cases h
theorem lookAt_yes {s : Chip} {j : Nat} (h : j < s.bn) : s.lookAt (j : Int) = ((s.blk j).look, 0) := by
  unfold Chip.lookAt
  rw [Chip.there_yes (by omega) (by omega), if_pos rfl]
  rfl
/-- A map of numbers, of the law's own. -/
theorem law3 : Maps.Keyed Try.prog 3 := Maps.int_keyed Try.underlying3
theorem zero3 (w : World) : (zeroValue 3).run Try.prog w = .ok (.int .i64 0) w := by kernel_rfl
def MapF (W : World) (M n : Nat) (f : Int → Int) : Prop :=
  ∃ D : DataW Unit, W.ownsMap Try.prog 3 (plainElem Try.prog 3) M n D ∧ Maps.IsMap D ∧ ∀ b, D.atKey (.int .i64 b) (.lit (.int .i64 0)) = .lit (.int .i64 (f b))
theorem MapF.at {W W' : World} {M n : Nat} {f : Int → Int} (h : MapF W M n f) (hM : W'.heap[M]? = W.heap[M]?) : MapF W' M n f := by
  obtain ⟨D, ⟨es, cl, h1, h2, h3, h4⟩, h5, h6⟩ := h
  exact ⟨D, ⟨es, cl, hM.trans h1, h2, h3, h4⟩, h5, h6⟩
theorem MapF.lt {W : World} {M n : Nat} {f : Int → Int} (h : MapF W M n f) : M < W.heap.size := by
  obtain ⟨D, ⟨es, cl, h1, _⟩, _⟩ := h
  exact (Array.getElem?_eq_some_iff.1 h1).1
theorem MapF.mono {W : World} {M n m : Nat} {f : Int → Int} (h : MapF W M n f) (hm : n ≤ m) : MapF W M m f := by
  obtain ⟨D, h1, h2⟩ := h
  exact ⟨D, h1.mono hm, h2⟩
theorem MapF.new (W : World) : MapF (W.alloc (.map #[] 0)) W.heap.size 0 (fun _ => 0) :=
  ⟨_, World.ownsMap_made (H := Unit) W Try.prog 3 _, Maps.isMap_empty, fun _ => rfl⟩
theorem wf64 {n : Int} (h1 : -9223372036854775808 ≤ n) (h2 : n ≤ 9223372036854775807) : (Lit.int .i64 n).wf = true := by
  simp [Lit.wf, IntKind.min, IntKind.max, IntKind.signed, IntKind.bits]; omega
theorem MapF.lookup {W : World} {M n : Nat} {f : Int → Int} (h : MapF W M n f) (t : TypeId) (ht : Try.prog.underlying t = some (.map 3 3)) (b : Int) (hb : 0 ≤ b ∧ b < 1000000) : (Instr.lookup t (.map (some M)) (.int .i64 b) false).run Try.prog W = .ok (.int .i64 (f b)) W := by
  obtain ⟨D, h1, h2, h3⟩ := h
  obtain ⟨c, hr, hc, _⟩ := h1.lookup_int law3 ht Try.underlying3 (zero3 W) (Maps.keyOf_int_mk Try.underlying3 (a := b) (wf64 (by omega) (by omega)))
  rw [h3] at hc
  cases hc
  exact hr
theorem MapF.put {D : DataW Unit} {f : Int → Int} (h2 : Maps.IsMap D) (h3 : ∀ b, D.atKey (.int .i64 b) (.lit (.int .i64 0)) = .lit (.int .i64 (f b))) (b v : Int) (x : Int) : (D.put (.int .i64 b) (.lit (.int .i64 v))).atKey (.int .i64 x) (.lit (.int .i64 0)) = .lit (.int .i64 (upd f b v x)) := by
  unfold upd
  by_cases e : x = b
  · subst e
    rw [if_pos rfl, Maps.atKey_put_same h2 (by trivial)]
  · rw [if_neg e, Maps.atKey_put_other (fun e2 => e (by cases e2; rfl)), h3]
theorem wpList_put {w : World} {ops : Array Oper} {rest : List Oper} {o : Oper} {a : Act} {Q : Exit → Act → World → Prop} (hg : o.guard = none) (m x v : Operand) (hop : o.op = Op.mapUpdate 38 m x v) {M n : Nat} {f : Int → Int} (h : MapF w M n f) (hn : n < 1000000) (hm : a.eval m = .map (some M))
    (b u : Int) (hb : 0 ≤ b ∧ b < 1000000) (hu : 0 ≤ u ∧ u < 1000000) (hx : a.eval x = .int .i64 b) (hv : a.eval v = .int .i64 u)
    (hK : ∀ w', MapF w' M (n + 1) (upd f b u) → w.grownBy w' (some M) → wpList Try.prog ops Q rest (a.put o.dst undef) w') : wpList Try.prog ops Q (o :: rest) a w := by
  obtain ⟨D, h1, h2, h3⟩ := h
  refine wpList_mapUpdate_own w hg m x v 38 hop 3 3 law3 Try.underlying38 (plainElem Try.prog 3) M n D hm h1 (by unfold maxLen; omega) _ _ (.int .i64 b) hx hv (Maps.keyOf_int_mk Try.underlying3 (wf64 (by omega) (by omega))) (.lit (.int .i64 u)) [] (plainElem_int Try.underlying3 (wf64 (by omega) (by omega))) ?_
  intro w' h4 h5
  refine hK w' ⟨_, h4, ?_, fun y => MapF.put h2 h3 b u y⟩ h5
  exact h2.put _ _
end Go.Proofs.Ytlgjlhgdpiipbaa
