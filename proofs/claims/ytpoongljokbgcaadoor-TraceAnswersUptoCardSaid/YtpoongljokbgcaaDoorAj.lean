/- Plain laws: a number, bytes, words, an entry: there and back. -/
import Derived.Test.YtpoongljokbgcaaDoorAd
namespace Go.Proofs.YtpoongljokbgcaaDoor.Tr
open Go.RowKit
/-! ### which signs a word has -/
theorem dg_range : ∀ n, n < 16 → (48 ≤ (dg n).toNat ∧ (dg n).toNat ≤ 57) ∨ (97 ≤ (dg n).toNat ∧ (dg n).toNat ≤ 102) := by decide
theorem hexB_mem (c d : UInt8) (h : d ∈ hexB c) : (48 ≤ d.toNat ∧ d.toNat ≤ 57) ∨ (97 ≤ d.toNat ∧ d.toNat ≤ 102) := by
  have hc : c.toNat < 256 := c.toNat_lt
  unfold hexB at h
  simp only [List.mem_cons, List.not_mem_nil, or_false] at h
  rcases h with rfl | rfl
  · exact dg_range _ (by omega)
  · exact dg_range _ (by omega)
theorem bare_range (c : UInt8) (h : bare c = true) : 33 ≤ c.toNat ∧ c.toNat ≤ 126 ∧ c ≠ 58 := by
  unfold bare at h
  simp only [Bool.not_eq_true', Bool.or_eq_false_iff, decide_eq_false_iff_not, beq_eq_false_iff_ne] at h
  exact ⟨by omega, by omega, h.2⟩
theorem quo_mem (l : List UInt8) (d : UInt8) (h : d ∈ quo l) : 33 ≤ d.toNat ∧ d ≠ 58 := by
  unfold quo at h
  split at h
  · simp only [List.mem_cons, List.not_mem_nil, or_false] at h
    subst h; decide
  · obtain ⟨c, _, hc⟩ := List.mem_flatMap.1 h
    unfold quo1 at hc
    split at hc
    · rename_i hb
      simp only [List.mem_cons, List.not_mem_nil, or_false] at hc
      subst hc
      exact ⟨(bare_range _ hb).1, (bare_range _ hb).2.2⟩
    · rcases List.mem_cons.1 hc with rfl | hc
      · decide
      · have := hexB_mem c d hc
        refine ⟨by omega, fun e => ?_⟩
        subst e
        rcases this with ⟨_, h2⟩ | ⟨h1, _⟩
        · exact absurd h2 (by decide)
        · exact absurd h1 (by decide)
theorem dec_mem (u : Nat) (d : UInt8) (h : d ∈ Lib.decDigits u) : isDig d = true := by
  induction u using Nat.strongRecOn with
  | _ u ih =>
    rw [Lib.decDigits] at h
    have hd : ∀ k, k < 10 → isDig (UInt8.ofNat (48 + k)) = true := by decide
    split at h
    · rename_i hu
      simp only [List.mem_cons, List.not_mem_nil, or_false] at h
      subst h; exact hd u hu
    · rename_i hu
      rcases List.mem_append.1 h with h | h
      · exact ih _ (by omega) h
      · simp only [List.mem_cons, List.not_mem_nil, or_false] at h
        subst h; exact hd _ (by omega)
theorem dig_range (d : UInt8) (h : isDig d = true) : 48 ≤ d.toNat ∧ d.toNat ≤ 57 := by
  unfold isDig at h
  simpa using h
theorem itoa_mem (n : Int) (d : UInt8) (h : d ∈ Lib.itoa n) : 45 ≤ d.toNat ∧ d.toNat ≤ 57 := by
  unfold Lib.itoa at h
  split at h
  · rcases List.mem_cons.1 h with rfl | h
    · decide
    · have := dig_range d (dec_mem _ d h); omega
  · have := dig_range d (dec_mem _ d h); omega
theorem hexes_mem (l : List UInt8) (d : UInt8) (h : d ∈ hexes l) : 48 ≤ d.toNat := by
  unfold hexes at h
  rcases List.mem_cons.1 h with rfl | h
  · decide
  · obtain ⟨c, _, hc⟩ := List.mem_flatMap.1 h
    have := hexB_mem c d hc; omega
/-! ### there and back -/
theorem unhexes_flat (l : List UInt8) : unhexes (l.flatMap hexB) = some l := by
  induction l with
  | nil => rfl
  | cons c l ih =>
    rw [List.flatMap_cons]
    show (match unh (dg (c.toNat / 16)) (dg (c.toNat % 16)) with | some d => (unhexes (l.flatMap hexB)).map (d :: ·) | none => none) = _
    rw [unh_hexB, ih]; rfl
theorem unhexes_hexes (l : List UInt8) : unhexesX (hexes l) = some l := unhexes_flat l
theorem uval_snoc (l : List UInt8) (c : UInt8) : uval (l ++ [c]) = 10 * uval l + (c.toNat - 48) := by unfold uval; rw [List.foldl_append]; rfl
theorem uval_dec (u : Nat) : uval (Lib.decDigits u) = u := by
  induction u using Nat.strongRecOn with
  | _ u ih =>
    have hd : ∀ k, k < 10 → (UInt8.ofNat (48 + k)).toNat - 48 = k := by decide
    rw [Lib.decDigits]
    split
    · rename_i hu
      show 10 * 0 + ((UInt8.ofNat (48 + u)).toNat - 48) = u
      rw [hd u hu]; omega
    · rename_i hu
      rw [uval_snoc, ih _ (by omega), hd _ (by omega)]; omega
theorem dec_len (k u : Nat) (hk : 1 ≤ k) (hu : u < 10 ^ k) : (Lib.decDigits u).length ≤ k := by
  induction k generalizing u with
  | zero => omega
  | succ k ih =>
    rw [Lib.decDigits]
    split
    · simp
    · rename_i h10
      have hk1 : 1 ≤ k := by
        rcases Nat.eq_zero_or_pos k with h | h
        · subst h; simp at hu; omega
        · exact h
      have := ih (u / 10) hk1 (by rw [Nat.pow_succ] at hu; omega)
      simp; omega
theorem dec_ne (u : Nat) : ∃ c r, Lib.decDigits u = c :: r ∧ isDig c = true := by
  cases h : Lib.decDigits u with
  | nil =>
    rw [Lib.decDigits] at h
    split at h <;> simp at h
  | cons c r => exact ⟨c, r, rfl, dec_mem u c (by rw [h]; simp)⟩
theorem pnum_itoa (n : Int) (h : in64 n) : pnum (Lib.itoa n) = (n, true) := by
  obtain ⟨h0, h1⟩ := h
  have h19 : ∀ u : Nat, u ≤ 9223372036854775808 → (Lib.decDigits u).length ≤ 19 := fun u hu => dec_len 19 u (by decide) (Nat.lt_of_le_of_lt hu (by decide))
  have hall : ∀ u : Nat, (Lib.decDigits u).all isDig = true := fun u => List.all_eq_true.2 fun d hd => dec_mem u d hd
  by_cases hn : n < 0
  · obtain ⟨u, rfl⟩ : ∃ u : Nat, n = -(u : Int) := ⟨n.natAbs, by omega⟩
    have hi : Lib.itoa (-(u : Int)) = 45 :: Lib.decDigits u := Lib.itoa_neg u (by omega)
    have ht : Lib.trimPrefix (45 :: Lib.decDigits u) [45] = Lib.decDigits u := by simp [Lib.trimPrefix, Lib.hasPrefix]
    have hp : Lib.hasPrefix (45 :: Lib.decDigits u) [45] = true := by simp [Lib.hasPrefix]
    have hw : wrap64 (-(wrap64 (u : Int))) = -(u : Int) := by unfold wrap64; omega
    have hm : pnum (45 :: Lib.decDigits u) = (-(u : Int), Lib.itoa (-(u : Int)) == 45 :: Lib.decDigits u) := by
      unfold pnum
      have h19' := h19 u (by omega)
      rw [ht, hp]
      simp only [hall, uval_dec, h19', decide_true, Bool.and_self, if_true, hw]
    rw [hi, hm, hi]; simp
  · obtain ⟨u, rfl⟩ : ∃ u : Nat, n = (u : Int) := ⟨n.toNat, by omega⟩
    have hi : Lib.itoa (u : Int) = Lib.decDigits u := Lib.itoa_nonneg u
    obtain ⟨c, r, hc, hd⟩ := dec_ne u
    have hc45 : c ≠ 45 := fun e => by subst e; revert hd; decide
    have ht : Lib.trimPrefix (Lib.decDigits u) [45] = Lib.decDigits u := by rw [hc]; exact trim_no 45 c r hc45
    have hp : Lib.hasPrefix (Lib.decDigits u) [45] = false := by rw [hc]; exact has_no 45 c r hc45
    have hw : wrap64 (u : Int) = (u : Int) := by unfold wrap64; omega
    have hm : pnum (Lib.decDigits u) = ((u : Int), Lib.itoa (u : Int) == Lib.decDigits u) := by
      unfold pnum
      have h19' := h19 u (by omega)
      rw [ht, hp]
      simp only [hall, uval_dec, h19', decide_true, Bool.and_self, if_true, hw, Bool.false_eq_true, if_false]
    rw [hi, hm, hi]; simp
/-! ### split and cut -/
theorem spl_one (c : UInt8) (a : List UInt8) (h : c ∉ a) : spl c a = [a] := by
  induction a with
  | nil => rfl
  | cons b a ih =>
    simp only [List.mem_cons, not_or] at h
    rw [spl, if_neg (fun e => h.1 e.symm), ih h.2]
theorem spl_cons (c : UInt8) (a b : List UInt8) (h : c ∉ a) : spl c (a ++ c :: b) = a :: spl c b := by
  induction a with
  | nil => rw [List.nil_append, spl, if_pos rfl]
  | cons d a ih =>
    simp only [List.mem_cons, not_or] at h
    rw [List.cons_append, spl, if_neg (fun e => h.1 e.symm), ih h.2]
theorem joinTail_cons (y : List UInt8) (r : List (List UInt8)) (c : UInt8) : Lib.joinTail [c] (y :: r) = c :: (y ++ Lib.joinTail [c] r) := by
  unfold Lib.joinTail; simp
theorem spl_join (c : UInt8) (x : List UInt8) (xs : List (List UInt8)) (hx : c ∉ x) (h : ∀ y ∈ xs, c ∉ y) : spl c (Lib.join (x :: xs) [c]) = x :: xs := by
  induction xs generalizing x with
  | nil => rw [Lib.join_cons]; show spl c (x ++ []) = _; rw [List.append_nil]; exact spl_one c x hx
  | cons y r ih =>
    rw [Lib.join_cons, joinTail_cons, spl_cons c x _ hx]
    have := ih y (h y (by simp)) (fun z hz => h z (by simp [hz]))
    rw [Lib.join_cons] at this
    rw [this]
theorem index_at (c : UInt8) (a b : List UInt8) (h : c ∉ a) : Lib.index (a ++ c :: b) [c] = a.length := by
  induction a with
  | nil => rw [List.nil_append, Lib.index]; simp [List.isPrefixOf]
  | cons d a ih =>
    simp only [List.mem_cons, not_or] at h
    rw [List.cons_append, Lib.index]
    have := ih h.2
    simp [List.isPrefixOf, h.1, this]
theorem cut_at (c : UInt8) (a b : List UInt8) (h : c ∉ a) : Lib.cut (a ++ c :: b) [c] = (a, b, true) := by
  unfold Lib.cut
  rw [index_at c a b h, if_pos (by omega)]
  simp
theorem toEnt_ent (e : Ent) (hk : in64 e.kind) : toEnt (ent e) = ⟨e.name, 0, e.kind⟩ := by
  unfold toEnt ent
  rw [cut_at 58 _ _ (fun h => (quo_mem _ _ h).2 rfl), unq_quo, pnum_itoa _ hk]
  rfl
theorem ent_mem (e : Ent) (d : UInt8) (h : d ∈ ent e) : 33 ≤ d.toNat := by
  unfold ent at h
  rcases List.mem_append.1 h with h | h
  · exact (quo_mem _ _ h).1
  · rcases List.mem_cons.1 h with rfl | h
    · decide
    · have := itoa_mem _ _ h; omega
end Go.Proofs.YtpoongljokbgcaaDoor.Tr
