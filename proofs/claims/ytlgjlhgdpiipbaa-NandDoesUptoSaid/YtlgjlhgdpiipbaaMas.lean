import Derived.Test.YtlgjlhgdpiipbaaMam
import Derived.Maps.Views
import Derived.Maps.Own
import Derived.Maps.OwnOps
import Derived.Test.YtlgjlhgdpiipbaaMar
import Derived.Maps.OwnSet
/- NandCounts, plainly: operations, wears, pages in order. -/
namespace Go.Proofs.Ytlgjlhgdpiipbaa
open Go.RowKit
/-- The wears of the first blocks, together. -/
def Chip.wearTo (s : Chip) : Nat → Int
  | 0 => 0
  | k + 1 => s.wearTo k + (s.blk k).look.wear
theorem wearTo_same {s s' : Chip} : ∀ k, (∀ x, x < k → (s'.blk x).look.wear = (s.blk x).look.wear) → s'.wearTo k = s.wearTo k
  | 0, _ => rfl
  | k + 1, h => by
    show s'.wearTo k + _ = s.wearTo k + _
    rw [wearTo_same k (fun x hx => h x (by omega)), h k (by omega)]
theorem wearTo_one {s s' : Chip} {i : Nat} (hi : (s'.blk i).look.wear = (s.blk i).look.wear + 1) : ∀ k, i < k → (∀ x, x < k → x ≠ i → (s'.blk x).look.wear = (s.blk x).look.wear) → s'.wearTo k = s.wearTo k + 1
  | 0, hk, _ => by omega
  | k + 1, hk, h => by
    show s'.wearTo k + _ = s.wearTo k + _ + 1
    by_cases e : i = k
    · subst e
      rw [wearTo_same i (fun x hx => h x (by omega) (by omega)), hi]
      omega
    · rw [wearTo_one hi k (by omega) (fun x hx hne => h x (by omega) hne), h k (by omega) (fun e2 => e e2.symm)]
      omega
theorem wearTo_bnd {s : Chip} {N : Int} (hg : s.Good N) (hN : 0 ≤ N) : ∀ k, k ≤ s.bn → 0 ≤ s.wearTo k ∧ s.wearTo k ≤ k * N
  | 0, _ => ⟨Int.le_refl _, by show (0 : Int) ≤ _; omega⟩
  | k + 1, hk => by
    have h1 := wearTo_bnd hg hN k (by omega)
    have h2 := hg.wear k (by omega)
    show 0 ≤ s.wearTo k + _ ∧ s.wearTo k + _ ≤ _
    have : ((k + 1 : Nat) : Int) * N = k * N + N := by
      rw [Int.natCast_add, Int.add_mul]; omega
    rw [this]
    omega
/-- What the law has counted. -/
structure Cnt (s : Chip) (ops er : Int) (f : Int → Int) : Prop where
  ops : s.ops = ops
  er : s.wearTo s.bn = er
  last : ∀ i : Nat, i < s.bn → f i ≤ (s.blk i).look.next
def upd (f : Int → Int) (b v : Int) : Int → Int := fun x => if x = b then v else f x
/-- Was it an operation? -/
def isOp (re : Int) (on off : Bool) : Bool := decide (re = 0) || (decide (re = 25) || (decide (re = 8) && (on && off)))
theorem isOp_refused {s : Chip} {a : Int} {off : Bool} (h : Refused s a) : isOp a (!s.off) off = false := by
  unfold isOp
  rcases h with ⟨rfl, h⟩ | ⟨h, rfl | rfl | rfl⟩
  · rw [h]; rfl
  · rfl
  · rfl
  · rfl
theorem isOp_took {s s' : Chip} {i : Nat} {a : Int} (h : Took s s' i a) : isOp a (!s.off) s'.off = true := by
  unfold isOp
  rcases h.ans with ⟨rfl, _⟩ | ⟨rfl, _⟩ | ⟨rfl, h2⟩
  · rfl
  · rfl
  · rw [h2, h.on]; rfl
theorem cnt_fresh {bn pn : Int} {bad : List Int} {evs : List Ev} {st : Chip} (h : newChip bn pn bad evs = .ok st) : Cnt st 0 0 (fun _ => 0) := by
  have hg := fresh_good h
  have hb := wearTo_bnd hg (Int.le_refl _) st.bn (Nat.le_refl _)
  exact ⟨by have := hg.ops; omega, by omega, fun i hi => (hg.next i hi).1⟩
/-- A call counts. -/
theorem cnt_does {s : Chip} {N ops er : Int} {f : Int → Int} (hg : s.Good N) (h : Cnt s ops er f) (q : Cl) (hn : q.next = false) :
    (isOp (s.does q).1.2 (!s.off) (s.does q).2.off = true → q.do_ = 0 → 0 ≤ q.blk ∧ q.blk < s.bn ∧ f q.blk ≤ q.page ∧ 0 ≤ q.page ∧ q.page < s.pn ∧ Cnt (s.does q).2 (ops + 1) er (upd f q.blk (q.page + 1))) ∧
    (isOp (s.does q).1.2 (!s.off) (s.does q).2.off = true → q.do_ = 1 → 0 ≤ q.blk ∧ q.blk < s.bn ∧ Cnt (s.does q).2 (ops + 1) (er + 1) (if (s.does q).1.2 = 0 then upd f q.blk 0 else f)) ∧
    (isOp (s.does q).1.2 (!s.off) (s.does q).2.off = false ∨ (q.do_ ≠ 0 ∧ q.do_ ≠ 1) → Cnt (s.does q).2 ops er f) := by
  have hp : s.pageOf q = q.page := by unfold Chip.pageOf; rw [hn]; rfl
  unfold Chip.does
  rw [hp]
  split
  · rename_i h0
    dsimp only
    rcases program_law s q.blk q.page (rep 288 q.fill) with ⟨e, hr⟩ | ⟨i, j, e1, e2, hj, hnx, t, hl, _⟩
    · rw [e]
      have hoff := isOp_refused (off := s.off) hr
      rw [hoff]
      exact ⟨fun h => absurd h (by decide), fun h => absurd h (by decide), fun _ => h⟩
    · have hon := isOp_took t
      rw [hon]
      have hfi := h.last i t.lt
      have hlt := t.lt
      refine ⟨fun _ _ => ⟨by omega, by omega, by rw [e1, e2]; omega, by omega, by omega, by rw [t.ops, h.ops], ?_, fun x hx => ?_⟩, fun _ h1 => by omega, fun hh => by rcases hh with hh | hh; cases hh; omega⟩
      · rw [t.bn, ← h.er]
        exact wearTo_same _ (fun x hx => by
          by_cases ex : x = i
          · subst ex; rw [hl]
          · rw [t.other x ex])
      · rw [t.bn] at hx
        unfold upd
        by_cases ex : x = i
        · subst ex
          rw [if_pos e1.symm, hl]
          dsimp only
          omega
        · rw [if_neg (by rw [e1]; omega), t.other x ex]
          exact h.last x hx
  · rename_i h0
    split
    · rename_i h1
      dsimp only
      rcases erase_law s q.blk with ⟨e, hr⟩ | ⟨i, e1, t, hw, hc⟩
      · rw [e]
        have hoff := isOp_refused (off := s.off) hr
        rw [hoff]
        exact ⟨fun h => absurd h (by decide), fun h => absurd h (by decide), fun _ => h⟩
      · have hon := isOp_took t
        rw [hon]
        have hfi := h.last i t.lt
        have hni := hg.next i t.lt
        have hlt := t.lt
        refine ⟨fun _ h2 => by omega, fun _ _ => ⟨by omega, by omega, by rw [t.ops, h.ops], ?_, fun x hx => ?_⟩, fun hh => by rcases hh with hh | hh; cases hh; omega⟩
        · rw [t.bn, ← h.er]
          exact wearTo_one hw _ t.lt (fun x hx hne => by rw [t.other x hne])
        · rw [t.bn] at hx
          by_cases ex : x = i
          · subst ex
            rcases hc with ⟨_, ha, hx0, _⟩ | ⟨_, hx0, _⟩
            · rw [if_pos ha, hx0]; unfold upd; rw [if_pos e1.symm]; exact Int.le_refl _
            · rw [hx0]
              split
              · unfold upd; rw [if_pos e1.symm]; omega
              · omega
          · rw [t.other x ex]
            have := h.last x hx
            split
            · unfold upd; rw [if_neg (by rw [e1]; omega)]; exact this
            · exact this
    · split
      · exact ⟨fun _ h2 => by omega, fun _ h2 => by omega, fun _ => h⟩
      · split
        · refine ⟨fun _ h2 => by omega, fun _ h2 => by omega, fun _ => ⟨h.ops, ?_, h.last⟩⟩
          rw [← h.er]
          exact wearTo_same (s := s) (s' := { s with off := false }) s.bn (fun _ _ => rfl)
        · exact ⟨fun _ h2 => by omega, fun _ h2 => by omega, fun _ => h⟩
theorem new_bn {bn pn : Int} {bad : List Int} {evs : List Ev} {st : Chip} (h : newChip bn pn bad evs = .ok st) : (st.bn : Int) = bn ∧ (st.pn : Int) = pn ∧ 4 ≤ pn ∧ pn ≤ 32 ∧ bn ≤ 256 := by
  unfold newChip at h
  split at h
  · rename_i hg
    obtain ⟨h1, h2, h3, h4, h5⟩ := hg
    split at h
    · cases h
    · split at h
      · cases h
        exact ⟨by show ((bn.toNat : Nat) : Int) = bn; omega, by show ((pn.toNat : Nat) : Int) = pn; omega, by omega, by omega, by omega⟩
      · cases h
  · cases h
theorem lookAt_yes {s : Chip} {j : Nat} (h : j < s.bn) : s.lookAt (j : Int) = ((s.blk j).look, 0) := by
  unfold Chip.lookAt
  rw [Chip.there_yes (by omega) (by omega), if_pos rfl]
  rfl
/-- A map of numbers, of the law's own. -/
theorem law3 : Maps.Keyed Try.prog 3 := Maps.int_keyed Try.underlying3
theorem zero3 (w : World) : (zeroValue 3).run Try.prog w = .ok (.int .i64 0) w := by kernel_rfl
def MapF (W : World) (M n : Nat) (f : Int → Int) : Prop :=
  ∃ D : DataW Unit, W.ownsMap Try.prog 3 (plainElem Try.prog 3) M n D ∧ Maps.IsMap D ∧ ∀ b, D.atKey (.int .i64 b) (.lit (.int .i64 0)) = .lit (.int .i64 (f b))
theorem MapF.at {W W' : World} {M n : Nat} {f : Int → Int} (h : MapF W M n f) (hM : W'.heap[M]? = W.heap[M]?) : MapF W' M n f := by
  obtain ⟨D, ⟨es, cl, h1, h2, h3, h4⟩, h5, h6⟩ := h
  exact ⟨D, ⟨es, cl, hM.trans h1, h2, h3, h4⟩, h5, h6⟩
theorem MapF.lt {W : World} {M n : Nat} {f : Int → Int} (h : MapF W M n f) : M < W.heap.size := by
  obtain ⟨D, ⟨es, cl, h1, _⟩, _⟩ := h
  exact (Array.getElem?_eq_some_iff.1 h1).1
theorem MapF.mono {W : World} {M n m : Nat} {f : Int → Int} (h : MapF W M n f) (hm : n ≤ m) : MapF W M m f := by
  obtain ⟨D, h1, h2⟩ := h
  exact ⟨D, h1.mono hm, h2⟩
theorem MapF.new (W : World) : MapF (W.alloc (.map #[] 0)) W.heap.size 0 (fun _ => 0) :=
  ⟨_, World.ownsMap_made (H := Unit) W Try.prog 3 _, Maps.isMap_empty, fun _ => rfl⟩
theorem wf64 {n : Int} (h1 : -9223372036854775808 ≤ n) (h2 : n ≤ 9223372036854775807) : (Lit.int .i64 n).wf = true := by
  simp [Lit.wf, IntKind.min, IntKind.max, IntKind.signed, IntKind.bits]; omega
theorem MapF.lookup {W : World} {M n : Nat} {f : Int → Int} (h : MapF W M n f) (t : TypeId) (ht : Try.prog.underlying t = some (.map 3 3)) (b : Int) (hb : 0 ≤ b ∧ b < 1000000) : (Instr.lookup t (.map (some M)) (.int .i64 b) false).run Try.prog W = .ok (.int .i64 (f b)) W := by
  obtain ⟨D, h1, h2, h3⟩ := h
  obtain ⟨c, hr, hc, _⟩ := h1.lookup_int law3 ht Try.underlying3 (zero3 W) (Maps.keyOf_int_mk Try.underlying3 (a := b) (wf64 (by omega) (by omega)))
  rw [h3] at hc
  cases hc
  exact hr
theorem MapF.put {D : DataW Unit} {f : Int → Int} (h2 : Maps.IsMap D) (h3 : ∀ b, D.atKey (.int .i64 b) (.lit (.int .i64 0)) = .lit (.int .i64 (f b))) (b v : Int) (x : Int) : (D.put (.int .i64 b) (.lit (.int .i64 v))).atKey (.int .i64 x) (.lit (.int .i64 0)) = .lit (.int .i64 (upd f b v x)) := by
  unfold upd
  by_cases e : x = b
  · subst e
    rw [if_pos rfl, Maps.atKey_put_same h2 (by trivial)]
  · rw [if_neg e, Maps.atKey_put_other (fun e2 => e (by cases e2; rfl)), h3]
theorem wpList_put {w : World} {ops : Array Oper} {rest : List Oper} {o : Oper} {a : Act} {Q : Exit → Act → World → Prop} (hg : o.guard = none) (m x v : Operand) (hop : o.op = Op.mapUpdate 38 m x v) {M n : Nat} {f : Int → Int} (h : MapF w M n f) (hn : n < 1000000) (hm : a.eval m = .map (some M))
    (b u : Int) (hb : 0 ≤ b ∧ b < 1000000) (hu : 0 ≤ u ∧ u < 1000000) (hx : a.eval x = .int .i64 b) (hv : a.eval v = .int .i64 u)
    (hK : ∀ w', MapF w' M (n + 1) (upd f b u) → w.grownBy w' (some M) → wpList Try.prog ops Q rest (a.put o.dst undef) w') : wpList Try.prog ops Q (o :: rest) a w := by
  obtain ⟨D, h1, h2, h3⟩ := h
  refine wpList_mapUpdate_own w hg m x v 38 hop 3 3 law3 Try.underlying38 (plainElem Try.prog 3) M n D hm h1 (by unfold maxLen; omega) _ _ (.int .i64 b) hx hv (Maps.keyOf_int_mk Try.underlying3 (wf64 (by omega) (by omega))) (.lit (.int .i64 u)) [] (plainElem_int Try.underlying3 (wf64 (by omega) (by omega))) ?_
  intro w' h4 h5
  refine hK w' ⟨_, h4, ?_, fun y => MapF.put h2 h3 b u y⟩ h5
  exact h2.put _ _
end Go.Proofs.Ytlgjlhgdpiipbaa
/- NandOneSided, plainly: pages cover what they were programmed with; the law's map of pages. -/
namespace Go.Proofs.Ytlgjlhgdpiipbaa
open Go.RowKit
/-- Each bit that is 1 in the other one is 1. -/
def Cov (a b : List UInt8) : Prop := ∀ i (_ : i < a.length) (_ : i < b.length), a[i] ||| b[i] = a[i]
theorem or_or_self (a b : UInt8) : (a ||| b) ||| a = a ||| b := by
  rw [UInt8.or_assoc, UInt8.or_comm b a, ← UInt8.or_assoc, UInt8.or_self]
theorem or_keep {a b x : UInt8} (h : a ||| b = a) : (a ||| x) ||| b = a ||| x := by
  rw [UInt8.or_assoc, UInt8.or_comm x b, ← UInt8.or_assoc, h]
theorem mask_at (l m : List UInt8) : ∃ f : Nat → UInt8, ∀ i (h : i < l.length) (h' : i < (mask l m).length), (mask l m)[i] = l[i] ||| f i := by
  by_cases hm : m = []
  · subst hm
    refine ⟨fun _ => 0, fun i h h' => ?_⟩
    simp only [mask_nil, UInt8.or_zero]
  · exact ⟨fun i => m.getD (i % m.length) 0, fun i h h' => mask_get l m i h hm h'⟩
theorem mask_cov (l m : List UInt8) : Cov (mask l m) l := by
  obtain ⟨f, hf⟩ := mask_at l m
  intro i h h'
  rw [hf i h' h]
  exact or_or_self _ _
theorem mask_keeps {l b : List UInt8} (m : List UInt8) (h : Cov l b) (hl : l.length = b.length) : Cov (mask l m) b := by
  obtain ⟨f, hf⟩ := mask_at l m
  intro i h1 h2
  rw [hf i (by omega) h1]
  exact or_keep (h i (by omega) h2)
theorem or_255 (x : UInt8) : (255 : UInt8) ||| x = 255 := by
  have h1 : (255 : UInt8) = ~~~ (0 : UInt8) := by decide
  rw [h1]
  exact UInt8.neg_one_or
theorem rep_get (n : Nat) (c : UInt8) (i : Nat) (h : i < (rep n c).length) : (rep n c)[i] = c := List.getElem_replicate ..
theorem mask_255 (n : Nat) (m : List UInt8) : mask (rep n 255) m = rep n 255 := by
  obtain ⟨f, hf⟩ := mask_at (rep n 255) m
  refine List.ext_getElem (by rw [mask_len]) fun i h1 h2 => ?_
  rw [hf i h2 h1]
  rw [rep_get]
  exact or_255 _
set_option maxRecDepth 100000 in
theorem allOf_get (f : Nat → List UInt8) : ∀ (m : Nat), (∀ j, j < m → (f j).length = 288) → ∀ j, j < m → ∀ x (hx : x < 288) (h : j * 288 + x < (allOf f m).length) (h' : x < (f j).length), (allOf f m)[j * 288 + x] = (f j)[x]
  | m + 1, hl, j, hj, x, hx, h, h' => by
    have hm := allOf_len f m (fun j hj => hl j (by omega))
    have : (allOf f (m + 1))[j * 288 + x]? = (f j)[x]? := by
      rw [allOf_succ]
      by_cases e : j = m
      · subst e
        rw [List.getElem?_append_right (by omega), hm]
        congr 1
        omega
      · have hb : j * 288 + x < (allOf f m).length := by
          rw [hm]
          have : (j + 1) * 288 ≤ m * 288 := Nat.mul_le_mul_right _ (by omega)
          omega
        rw [List.getElem?_append_left hb, List.getElem?_eq_getElem hb, allOf_get f m (fun j hj => hl j (by omega)) j (by omega) x hx hb h', List.getElem?_eq_getElem h']
    rw [List.getElem?_eq_getElem h, List.getElem?_eq_getElem h'] at this
    exact Option.some.inj this
theorem piece_at (f : Nat → List UInt8) (m : Nat) (hl : ∀ j, j < m → (f j).length = 288) (ms : List UInt8) (j : Nat) (hj : j < m) : ∃ g : Nat → UInt8, ∀ x (h : x < (f j).length) (h' : x < (piece (mask (allOf f m) ms) j).length), (piece (mask (allOf f m) ms) j)[x] = (f j)[x] ||| g x := by
  obtain ⟨g, hg⟩ := mask_at (allOf f m) ms
  refine ⟨fun x => g (j * 288 + x), fun x h h' => ?_⟩
  have hlen := allOf_len f m hl
  have hx : x < 288 := by rw [hl j hj] at h; exact h
  have hb : j * 288 + x < (allOf f m).length := by
    rw [hlen]
    have : (j + 1) * 288 ≤ m * 288 := Nat.mul_le_mul_right _ (by omega)
    omega
  rw [piece_get _ j x h' (by rw [mask_len]; exact hb), hg _ hb, allOf_get f m hl j hj x hx hb h]
set_option maxRecDepth 100000 in
theorem laid_keeps (f : Nat → List UInt8) (m : Nat) (hl : ∀ j, j < m → (f j).length = 288) (ms : List UInt8) (j : Nat) (hj : j < m) : (∀ b : List UInt8, b.length = 288 → Cov (f j) b → Cov (piece (mask (allOf f m) ms) j) b) ∧ (f j = rep 288 255 → piece (mask (allOf f m) ms) j = rep 288 255) := by
  obtain ⟨g, hg⟩ := piece_at f m hl ms j hj
  have hlen := allOf_len f m hl
  have hpl := piece_len (mask (allOf f m) ms) j m (by rw [mask_len]; exact hlen) hj
  have hfl := hl j hj
  refine ⟨fun b hb hc i h1 h2 => ?_, fun he => ?_⟩
  · rw [hg i (by omega) h1]
    exact or_keep (hc i (by omega) h2)
  · refine List.ext_getElem (by rw [hpl, rep_len]) fun i h1 h2 => ?_
    rw [hg i (by omega) h1]
    have h3 : (f j)[i]'(by omega) = 255 := by
      have : (f j)[i]? = some 255 := by
        rw [he, List.getElem?_eq_getElem (by rw [rep_len]; omega), rep_get]
      rw [List.getElem?_eq_getElem (by omega)] at this
      exact Option.some.inj this
    rw [h3]
    rw [rep_get]
    exact or_255 _
theorem erase_zero {s : Chip} (hks : s.kinds) {n : Int} (h : (s.erase n).1 = 0) : s.nextEv.1.kind = 0 := by
  unfold Chip.erase at h
  split at h
  · rename_i h0; exact absurd h h0
  split at h
  · exact absurd h (by show ¬ (23 : Int) = 0; decide)
  split at h
  · have h : (((s.nextEv.2.worn n.toNat).torn n.toNat s.nextEv.1.mask).ends s.nextEv.1.kind).1 = 0 := h
    rcases nextEv_kind hks with e | e
    · rw [e]; rfl
    · rcases (ends_law ((s.nextEv.2.worn n.toNat).torn n.toNat s.nextEv.1.mask) s.nextEv.1.kind).2.2.2.2.2 with ⟨_, _, h2, h3⟩ | ⟨h1, _⟩ | ⟨h1, _⟩
      · omega
      · rw [h1] at h; exact absurd h (by decide)
      · rw [h1] at h; exact absurd h (by decide)
  · rename_i hk; exact Classical.not_not.1 hk
/-- What the law holds of each page: what it was programmed with, or nothing. -/
def OneS (s : Chip) (g : Int → Option UInt8) : Prop :=
  ∀ i : Nat, i < s.bn → ∀ j : Nat, j < s.pn → match g (64 * i + j) with
    | some f => Cov ((s.blk i).pages j) (rep 288 f)
    | none => (s.blk i).pages j = rep 288 255
def setG (g : Int → Option UInt8) (b : Int) (f : UInt8) : Int → Option UInt8 := fun x => if x = b then some f else g x
def delG (g : Int → Option UInt8) (b : Int) : Int → Option UInt8 := fun y => if y = b then none else g y
/-- The first keys of a block, taken out. -/
def cutG (g : Int → Option UInt8) (b : Int) (k : Int) : Int → Option UInt8 := fun x => if b ≤ x ∧ x < b + k then none else g x
theorem cutG_zero (g : Int → Option UInt8) (b : Int) : cutG g b ((0 : Nat) : Int) = g := by
  funext x
  unfold cutG
  rw [if_neg (by omega)]
theorem cutG_succ (g : Int → Option UInt8) (b : Int) (y : Nat) : delG (cutG g b y) (b + y) = cutG g b ((y + 1 : Nat) : Int) := by
  funext x
  unfold delG cutG
  by_cases h : x = b + y
  · rw [if_pos h, if_pos (by omega)]
  · rw [if_neg h]
    by_cases h2 : b ≤ x ∧ x < b + y
    · rw [if_pos h2, if_pos (by omega)]
    · rw [if_neg h2, if_neg (by omega)]
theorem oneS_fresh {bn pn : Int} {bad : List Int} {evs : List Ev} {st : Chip} (h : newChip bn pn bad evs = .ok st) : OneS st (fun _ => none) := by
  unfold newChip at h
  split at h
  · split at h
    · cases h
    · split at h
      · cases h; intro i hi j hj; rfl
      · cases h
  · cases h
/-- Was it programmed? -/
def progd (s : Chip) (q : Cl) : Bool := decide (q.do_ = 0 ∧ (s.does q).2.ops ≠ s.ops)
/-- What a call does to what the law holds. -/
theorem oneS_does {s : Chip} {g : Int → Option UInt8} (h : OneS s g) (hks : s.kinds) (hp32 : s.pn ≤ 32) (hlen : ∀ i, i < s.bn → ∀ j, j < s.pn → ((s.blk i).pages j).length = 288) (q : Cl) (hn : q.next = false) (i : Nat) (hqi : q.blk = i) (hi : i < s.bn) :
    -- programmed
    ((q.do_ = 0 ∧ (∃ j : Nat, q.page = j ∧ j < s.pn ∧ (s.blk i).look.next ≤ q.page ∧ ((s.does q).2.blk i).look.wear = (s.blk i).look.wear ∧ ((s.does q).2.blk i).look.bad = (s.blk i).look.bad ∧ ((s.does q).2.blk i).look.next = q.page + 1 ∧
        ((s.does q).1.2 = 0 ∨ (s.does q).1.2 = 25 ∨ (s.does q).1.2 = 8) ∧ OneS (s.does q).2 (setG g (64 * i + j) q.fill))) ∨
    -- an erase that was whole
    (q.do_ = 1 ∧ (s.does q).1.2 = 0 ∧ OneS (s.does q).2 (cutG g (64 * i) s.pn)) ∨
    -- neither
    (OneS (s.does q).2 g ∧ (q.do_ = 0 → ((s.does q).1.2 = 8 ∨ (s.does q).1.2 = 22 ∨ (s.does q).1.2 = 23 ∨ (s.does q).1.2 = 24) ∧ ((s.does q).2.blk i).look = (s.blk i).look) ∧ (q.do_ = 1 → (s.does q).1.2 ≠ 0))) := by
  have hpo : s.pageOf q = q.page := by unfold Chip.pageOf; rw [hn]; rfl
  unfold Chip.does
  rw [hpo]
  split
  · rename_i h0
    dsimp only
    rcases program_law s q.blk q.page (rep 288 q.fill) with ⟨e, hr⟩ | ⟨i', j, e1, e2, hj, hnx, t, hl, hpg⟩
    · right; right
      rw [e]
      refine ⟨h, fun _ => ⟨?_, rfl⟩, fun h1 => by omega⟩
      rcases hr with ⟨h2, _⟩ | ⟨_, h2⟩
      · exact .inl h2
      · exact .inr h2
    · obtain rfl : i = i' := by omega
      left
      refine ⟨h0, j, e2, hj, by omega, by rw [hl], by rw [hl], by rw [hl, e2], ?_, ?_⟩
      · rcases t.ans with ⟨h2, _⟩ | ⟨h2, _⟩ | ⟨h2, _⟩
        · exact .inl h2
        · exact .inr (.inl h2)
        · exact .inr (.inr h2)
      · intro x hx y hy
        rw [t.bn] at hx
        rw [t.pn] at hy
        have hold := h x hx y hy
        unfold setG
        by_cases hxy : x = i ∧ y = j
        · obtain ⟨rfl, rfl⟩ := hxy
          rw [if_pos rfl, hpg]
          dsimp only
          rw [if_pos rfl]
          exact mask_cov _ _
        · rw [if_neg (by omega)]
          by_cases hxi : x = i
          · subst hxi
            rw [hpg]
            dsimp only
            rw [if_neg (fun e => hxy ⟨rfl, e⟩)]
            exact hold
          · rw [t.other x hxi]; exact hold
  · rename_i h0
    split
    · rename_i h1
      dsimp only
      rcases erase_law s q.blk with ⟨e, hr⟩ | ⟨i', e1, t, hw, hc⟩
      · right; right
        rw [e]
        refine ⟨h, fun h2 => by omega, fun _ => ?_⟩
        rcases hr with ⟨h2, _⟩ | ⟨_, h2 | h2 | h2⟩ <;> rw [h2] <;> decide
      · obtain rfl : i = i' := by omega
        rcases hc with ⟨_, ha, _, _, hpg⟩ | ⟨hk0, _, hpg⟩
        · right; left
          refine ⟨h1, ha, fun x hx y hy => ?_⟩
          rw [t.bn] at hx
          rw [t.pn] at hy
          have hold := h x hx y hy
          unfold cutG
          by_cases hxi : x = i
          · subst hxi
            rw [if_pos (by omega)]
            exact hpg y hy
          · rw [if_neg (by omega), t.other x hxi]; exact hold
        · right; right
          refine ⟨fun x hx y hy => ?_, fun h2 => by omega, fun _ => ?_⟩
          · rw [t.bn] at hx
            rw [t.pn] at hy
            have hold := h x hx y hy
            by_cases hxi : x = i
            · subst hxi
              rw [hpg]
              unfold Chip.laid
              rw [if_pos hy]
              obtain ⟨k1, k2⟩ := laid_keeps (s.blk x).pages s.pn (hlen x hx) s.nextEv.1.mask y hy
              split <;> rename_i hg <;> rw [hg] at hold
              · exact k1 _ (rep_len _ _) hold
              · exact k2 hold
            · rw [t.other x hxi]; exact hold
          · rcases nextEv_kind hks with e | e
            · rw [e] at hk0; exact absurd rfl hk0
            · intro ha
              exact hk0 (erase_zero hks ha)
    · rename_i h1
      right; right
      split
      · exact ⟨h, fun h2 => by omega, fun h2 => by omega⟩
      · split
        · exact ⟨h, fun h2 => by omega, fun h2 => by omega⟩
        · exact ⟨h, fun h2 => by omega, fun h2 => by omega⟩
theorem byteV_inj {a b : UInt8} (h : byteV a = byteV b) : a = b := by
  unfold byteV at h
  have h : (a.toNat : Int) = (b.toNat : Int) := (Value.int.inj h).2
  exact UInt8.toNat_inj.1 (by omega)
theorem map_byteV_inj : ∀ {a b : List UInt8}, a.map byteV = b.map byteV → a = b
  | [], [], _ => rfl
  | [], _ :: _, h => by simp at h
  | _ :: _, [], h => by simp at h
  | x :: a, y :: b, h => by
    rw [List.map_cons, List.map_cons] at h
    obtain ⟨h1, h2⟩ := List.cons.inj h
    rw [byteV_inj h1, map_byteV_inj h2]
theorem pgV_inj {a b : List UInt8} (h : pgV a = pgV b) : a = b := by
  unfold pgV cellsB at h
  have := Value.agg.inj h
  exact map_byteV_inj (by simpa using this)
open Classical in
/-- A page, as an element of a map reads. -/
noncomputable def pgElem (v : Value) : Option (DataW Unit × List MemPlace) := if h : ∃ l, v = pgV l then some (.lit (.string h.choose), []) else none
theorem pgElem_mk (l : List UInt8) : pgElem (pgV l) = some (.lit (.string l), []) := by
  have h : ∃ l', pgV l = pgV l' := ⟨l, rfl⟩
  unfold pgElem
  rw [dif_pos h]
  rw [← pgV_inj h.choose_spec]
theorem pgElem_inv {v : Value} {z : DataW Unit × List MemPlace} (h : pgElem v = some z) : ∃ l, v = pgV l ∧ z = (.lit (.string l), []) := by
  unfold pgElem at h
  split at h
  · rename_i h0
    cases h
    exact ⟨_, h0.choose_spec, rfl⟩
  · cases h
/-- The page that a fill makes; without one: zeros. -/
def fillP : Option UInt8 → List UInt8
  | some f => rep 288 f
  | none => rep 288 0
/-- A map of pages, of the law's own. -/
def MapP (W : World) (M n : Nat) (g : Int → Option UInt8) : Prop :=
  ∃ D : DataW Unit, W.ownsMap Try.prog 3 pgElem M n D ∧ Maps.IsMap D ∧ (∀ b, Maps.has D (.int .i64 b) = (g b).isSome) ∧ ∀ b, D.atKey (.int .i64 b) (.lit (.string (rep 288 0))) = .lit (.string (fillP (g b)))
theorem MapP.at {W W' : World} {M n : Nat} {g : Int → Option UInt8} (h : MapP W M n g) (hM : W'.heap[M]? = W.heap[M]?) : MapP W' M n g := by
  obtain ⟨D, ⟨es, cl, h1, h2, h3, h4⟩, h5⟩ := h
  exact ⟨D, ⟨es, cl, hM.trans h1, h2, h3, h4⟩, h5⟩
theorem MapP.lt {W : World} {M n : Nat} {g : Int → Option UInt8} (h : MapP W M n g) : M < W.heap.size := by
  obtain ⟨D, ⟨es, cl, h1, _⟩, _⟩ := h
  exact (Array.getElem?_eq_some_iff.1 h1).1
theorem MapP.mono {W : World} {M n m : Nat} {g : Int → Option UInt8} (h : MapP W M n g) (hm : n ≤ m) : MapP W M m g := by
  obtain ⟨D, h1, h2⟩ := h
  exact ⟨D, h1.mono hm, h2⟩
theorem MapP.new (W : World) : MapP (W.alloc (.map #[] 0)) W.heap.size 0 (fun _ => none) :=
  ⟨_, World.ownsMap_made (H := Unit) W Try.prog 3 _, Maps.isMap_empty, fun _ => rfl, fun _ => rfl⟩
theorem key3 (b : Int) (hb : 0 ≤ b ∧ b < 1000000) : keyOf Try.prog 3 (.int .i64 b) = some (.int .i64 b) := Maps.keyOf_int_mk Try.underlying3 (wf64 (by omega) (by omega))
set_option maxRecDepth 100000 in
theorem MapP.look {W : World} {M n : Nat} {g : Int → Option UInt8} (h : MapP W M n g) (b : Int) (hb : 0 ≤ b ∧ b < 1000000) : (Instr.lookup 53 (.map (some M)) (.int .i64 b) true).run Try.prog W = .ok (.tuple #[pgV (fillP (g b)), .bool (g b).isSome]) W := by
  obtain ⟨D, h1, h2, h3, h4⟩ := h
  obtain ⟨v, ps, hr, hv⟩ := h1.look_ok law3 Try.underlying53 (zero48 W) (pgElem_mk (rep 288 0)) (key3 b hb)
  obtain ⟨l, rfl, he⟩ := pgElem_inv hv
  rw [h4] at he
  have he := (Prod.mk.inj he).1
  have : fillP (g b) = l := by cases he; rfl
  rw [hr, h3, this]
theorem MapP.put {W : World} {M n : Nat} {g : Int → Option UInt8} (h : MapP W M n g) (hn : n < 1000000) (b : Int) (hb : 0 ≤ b ∧ b < 1000000) (f : UInt8) :
    ∃ w', (Instr.mapUpdate 53 (.map (some M)) (.int .i64 b) (pgV (rep 288 f))).run Try.prog W = .ok () w' ∧ MapP w' M (n + 1) (setG g b f) ∧ W.grownBy w' (some M) := by
  obtain ⟨D, h1, h2, h3, h4⟩ := h
  obtain ⟨w', hr, h5, h6⟩ := h1.update law3 Try.underlying53 (by unfold maxLen; omega) (key3 b hb) (pgElem_mk (rep 288 f))
  refine ⟨w', hr, ⟨_, h5, h2.put _ _, fun x => ?_, fun x => ?_⟩, h6⟩
  · unfold setG
    by_cases e : x = b
    · subst e; rw [if_pos rfl, Maps.has_put_same h2 (by trivial)]; rfl
    · rw [if_neg e, Maps.has_put_other (fun e2 => e (by cases e2; rfl)), h3]
  · unfold setG
    by_cases e : x = b
    · subst e; rw [if_pos rfl, Maps.atKey_put_same h2 (by trivial)]; rfl
    · rw [if_neg e, Maps.atKey_put_other (fun e2 => e (by cases e2; rfl)), h4]
set_option maxRecDepth 100000 in
theorem MapP.del {W : World} {M n : Nat} {g : Int → Option UInt8} (h : MapP W M n g) {ops : Array Oper} {rest : List Oper} {o : Oper} {a : Act} {Q : Exit → Act → World → Prop} (hg : o.guard = none) (m x : Operand) (hop : o.op = Op.call { callee := Callee.builtin Builtin.delete, args := #[m, x], argTypes := #[53, 3] })
    (hm : a.eval m = .map (some M)) (b : Int) (hb : 0 ≤ b ∧ b < 1000000) (hx : a.eval x = .int .i64 b)
    (hK : ∀ w', MapP w' M n (delG g b) → W.grownBy w' (some M) → wpList Try.prog ops Q rest (a.put o.dst (.tuple #[])) w') : wpList Try.prog ops Q (o :: rest) a W := by
  obtain ⟨D, h1, h2, h3, h4⟩ := h
  refine wpList_delete_own W hg m x 53 3 hop 48 law3 Try.underlying53 pgElem M n D hm h1 _ _ hx (key3 b hb) ?_
  intro w' h5 h6
  refine hK w' ⟨_, h5, h2.del _, fun y => ?_, fun y => ?_⟩ h6.grown
  · unfold delG; by_cases e : y = b
    · subst e; rw [if_pos rfl, Maps.has_del_same]; rfl
    · rw [if_neg e, Maps.has_del_other (fun e2 => e (by cases e2; rfl)), h3]
  · unfold delG; by_cases e : y = b
    · subst e; rw [if_pos rfl, Maps.atKey_del_same]; rfl
    · rw [if_neg e, Maps.atKey_del_other (fun e2 => e (by cases e2; rfl)), h4]
theorem step_mapUpdate_run {P : Program} {ops : Array Oper} {o : Oper} {a : Act} {w : World} {K : Act → World → Prop} {Q : Exit → Act → World → Prop} {E : Prop} (hgd : o.guard = none) (t : TypeId) (m x v : Operand) (ho : o.op = Op.mapUpdate t m x v) (vm key val : Value) (hm : a.eval m = vm) (hx : a.eval x = key) (hv : a.eval v = val) (w' : World)
    (hrun : (Instr.mapUpdate t vm key val).run P w = .ok () w') (hK : K (a.put o.dst undef) w') : if Region.wanted o (yielded ops a.tmps) = true then Oper.wp P o a w K Q else E := by
  have hw : Region.wanted o (yielded ops a.tmps) = true := by simp [Region.wanted, hgd]
  rw [if_pos hw]
  unfold Oper.wp
  simp [execOp, ho, hm, hx, hv, hrun, Result.andThen]
  exact hK
theorem w64 {x : Int} (h1 : -1 < x) (h2 : x < 1000000000) : IntKind.i64.wrap x = x := by
  simp [IntKind.wrap, IntKind.bits, IntKind.signed]
  omega
theorem exec_mul64 {ev : Operand → Value} {o : Oper} {W : World} (y : Operand) (u : TypeId) (ho : o.op = Op.binOp .mul 3 (.const (.int .i64 64)) y u) (hc : ev (.const (.int .i64 64)) = .int .i64 64) (b : Int) (hy : ev y = .int .i64 b) (hb : 0 ≤ b ∧ b < 1000000) : (execOp ev o).run Try.prog W = .ok (.value (.int .i64 (64 * b))) W := by
  have := w64 (x := 64 * b) (by omega) (by omega)
  simp [execOp, ho, hc, hy, eqGuard, binOp, Result.andThen, go_sem]
  exact this
theorem exec_addi {ev : Operand → Value} {o : Oper} {W : World} (x y : Operand) (u : TypeId) (ho : o.op = Op.binOp .add 3 x y u) (a b : Int) (hx : ev x = .int .i64 a) (hy : ev y = .int .i64 b) (hb : 0 ≤ a + b ∧ a + b < 100000000) : (execOp ev o).run Try.prog W = .ok (.value (.int .i64 (a + b))) W := by
  have := w64 (x := a + b) (by omega) (by omega)
  simp [execOp, ho, hx, hy, eqGuard, binOp, Result.andThen, go_sem]
  exact this
theorem has_len {w W : World} {X : Nat → Prop} {c : Nat} {st : Chip} (h : Has w W X c st) : ∀ i, i < st.bn → ∀ j, j < st.pn → ((st.blk i).pages j).length = 288 := by
  obtain ⟨Fm, Fr, L, hC, _⟩ := h; exact hC.len
theorem lookAt_no {s : Chip} {n : Int} (h : s.there n = false) : s.lookAt n = (zeroLook, 22) := by unfold Chip.lookAt; rw [h]; rfl
end Go.Proofs.Ytlgjlhgdpiipbaa
