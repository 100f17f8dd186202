import Derived.Test.YtpoongljokbgcaaDoorR
namespace Go.Proofs.YtpoongljokbgcaaDoor
open Go.RowKit
namespace Tr
theorem uq_len : ∀ (n : Nat) (l : List UInt8), l.length ≤ n → (uq l).1.length ≤ l.length := by
  intro n
  induction n with
  | zero => intro l h; have : l = [] := List.eq_nil_of_length_eq_zero (by omega); subst this; rw [uq_nil]; simp
  | succ n ih =>
    intro l h
    match l, h with
    | [], _ => rw [uq_nil]; simp
    | c :: r, h =>
      simp only [List.length_cons] at h
      by_cases hc : c = 37
      · subst hc
        match r, h with
        | [], _ => rw [uq_short [] (by simp)]; simp
        | [a], _ => rw [uq_short [a] (by simp)]; simp
        | a :: b :: r', h =>
          simp only [List.length_cons] at h
          cases hd : unh a b with
          | none => rw [uq_none a b r' hd]; simp
          | some d => rw [uq_some a b d r' hd]; have := ih r' (by omega); simp only [List.length_cons]; omega
      · rw [uq_bare c r hc]; have := ih r (by omega); simp only [List.length_cons]; omega
theorem unq_len (l : List UInt8) : ((unq l).getD []).length ≤ l.length := by
  unfold unq
  split
  · exact uq_len l.length l (Nat.le_refl _)
  · simp
theorem unhexes_len : ∀ (n : Nat) (l : List UInt8), l.length ≤ n → ((unhexes l).getD []).length ≤ l.length := by
  intro n
  induction n with
  | zero => intro l h; have : l = [] := List.eq_nil_of_length_eq_zero (by omega); subst this; simp [unhexes]
  | succ n ih =>
    intro l h
    match l, h with
    | [], _ => simp [unhexes]
    | [_], _ => simp [unhexes]
    | a :: b :: r, h =>
      simp only [List.length_cons] at h
      unfold unhexes
      cases unh a b with
      | none => simp
      | some d =>
        have := ih r (by omega)
        cases hr : unhexes r with
        | none => simp [hr]
        | some y => rw [hr] at this; simp at this ⊢; omega
theorem unhexesX_len (l : List UInt8) : ((unhexesX l).getD []).length ≤ l.length := by
  unfold unhexesX
  split
  · rename_i r; have := unhexes_len r.length r (Nat.le_refl _); simp only [List.length_cons]; omega
  · simp
theorem spl_mem (c : UInt8) (l : List UInt8) : ∀ x ∈ spl c l, x.length ≤ l.length := by
  induction l with
  | nil => intro x hx; simp [spl] at hx; subst hx; simp
  | cons b l ih =>
    intro x hx
    unfold spl at hx
    split at hx
    · rcases List.mem_cons.1 hx with rfl | h
      · simp
      · have := ih x h; simp; omega
    · split at hx
      · rename_i y ys hy
        rw [hy] at ih
        rcases List.mem_cons.1 hx with rfl | h
        · have := ih y (by simp); simp; omega
        · have := ih x (by simp [h]); simp; omega
      · simp at hx; subst hx; simp
theorem quo_len (l : List UInt8) : (quo l).length ≤ 3 * l.length + 1 := by
  unfold quo; split
  · simp
  · have := flat_len l; omega
theorem hexes_len (l : List UInt8) : (hexes l).length = 2 * l.length + 1 := by unfold hexes; rw [List.length_cons, hexflat_len]
theorem word_len (k : Int) : (word k).length ≤ 8 := by
  unfold word; split
  · rename_i h
    obtain ⟨j, hj, hj2⟩ : ∃ j, (k - 1).toNat = j ∧ j < 13 := ⟨_, rfl, by omega⟩
    rw [hj]
    have : ∀ j, j < 13 → (wds.getD j []).length ≤ 8 := by decide
    exact this j hj2
  · simp
theorem join_len (xs : List (List UInt8)) (c : UInt8) (N : Nat) (h : ∀ x ∈ xs, x.length ≤ N) : (Lib.join xs [c]).length ≤ xs.length * (N + 1) := by
  cases xs with
  | nil => simp [Lib.join_nil]
  | cons x r =>
    rw [Lib.join_cons, List.length_append]
    have hx := h x (by simp)
    have : (Lib.joinTail [c] r).length ≤ r.length * (N + 1) := by
      have hr : ∀ y ∈ r, y.length ≤ N := fun y hy => h y (by simp [hy])
      clear h hx
      induction r with
      | nil => simp [Lib.joinTail]
      | cons y r ih =>
        have h1 := ih (fun z hz => hr z (by simp [hz]))
        have h2 := hr y (by simp)
        unfold Lib.joinTail at *
        simp only [List.map_cons, List.flatten_cons, List.length_append, List.length_cons, List.length_nil] at *
        rw [Nat.add_mul]; omega
    rw [List.length_cons, Nat.add_mul]; omega
theorem fields_mem (o : Opr) (ho : o.ok) (N : Nat) (h1 : o.path.length ≤ N) (h2 : o.dest.length ≤ N) (h3 : o.data.length ≤ N) : ∀ x ∈ fields o, x.length ≤ 3 * N + 21 := by
  have q1 := quo_len o.path
  have q2 := quo_len o.dest
  have q3 := hexes_len o.data
  have q4 := Lib.itoa_length_le o.off ho.2.1.1 ho.2.1.2
  have q5 := Lib.itoa_length_le o.len ho.2.2.1 ho.2.2.2
  unfold fields
  intro x hx
  split at hx
  · simp at hx; rcases hx with rfl | rfl <;> omega
  split at hx
  · simp at hx; rcases hx with rfl | rfl | rfl <;> omega
  split at hx
  · simp at hx; rcases hx with rfl | rfl <;> omega
  split at hx
  · simp at hx; rcases hx with rfl | rfl | rfl <;> omega
  split at hx
  · simp at hx
  · simp at hx; subst hx; omega
theorem line_len (o : Opr) (ho : o.ok) (N : Nat) (h1 : o.path.length ≤ N) (h2 : o.dest.length ≤ N) (h3 : o.data.length ≤ N) : (Lib.join (word o.kind :: fields o) [32]).length ≤ 4 * (3 * N + 22) := by
  have := join_len (word o.kind :: fields o) 32 (3 * N + 21) (fun x hx => by
    rcases List.mem_cons.1 hx with rfl | h
    · have := word_len o.kind; omega
    · exact fields_mem o ho N h1 h2 h3 x h)
  have hl := fields_len o
  refine Nat.le_trans this ?_
  simp only [List.length_cons]
  exact Nat.mul_le_mul_right _ (by omega)
end Tr
def PairText (a : List UInt8) (n : Int) (w : World) (e : Ending) (w' : World) : Prop := e = .returned (.tuple #[.string (S a), .int .i64 n]) ∧ Below w.heap.size w w'
theorem unquote_pair (l : List UInt8) (w : World) (hl : 3 * l.length ≤ 140737488355328) :
    Calls Tryd.prog 10 #[.string (S l)] w (PairText ((Tr.unq l).getD []) (if (Tr.unq l).isSome then 0 else 270) w) :=
  (unquote_any l w hl).mono fun e w' ⟨he, hb⟩ => ⟨by rw [he]; cases Tr.unq l <;> rfl, hb⟩
def PairBytes (a : List UInt8) (w : World) (e : Ending) (w' : World) : Prop := ∃ v b, e = .returned (.tuple #[v, .bool b]) ∧ w'.ownsRow w.heap.size 5 1 v a.length (Lib.byteCells a) ∧ Below w.heap.size w w'
theorem unhexes_pair (l : List UInt8) (w : World) (hl : l.length ≤ 140737488355328) :
    Calls Tryd.prog 48 #[.string (S l)] w (PairBytes ((Tr.unhexesX l).getD []) w) :=
  (unhexes_any l w hl).mono fun e w' h => by
    unfold BytesBool at h
    cases hx : Tr.unhexesX l with
    | none => rw [hx] at h; obtain ⟨⟨v, he, ho⟩, hb⟩ := h; exact ⟨v, false, he, ho, hb⟩
    | some y => rw [hx] at h; obtain ⟨⟨v, he, ho⟩, hb⟩ := h; exact ⟨v, true, he, ho, hb⟩
theorem pnum_in (l : List UInt8) : in64 (Tr.pnum l).1 := by
  unfold Tr.pnum in64
  dsimp only
  split
  · split <;> (unfold wrap64; omega)
  · simp
end Go.Proofs.YtpoongljokbgcaaDoor
