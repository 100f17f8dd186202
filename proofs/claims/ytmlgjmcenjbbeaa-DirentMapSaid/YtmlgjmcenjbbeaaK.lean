/- Slices of structs; the records of a block: the plain law; what a map of seen names holds. -/
import Derived.Test.YtmlgjmcenjbbeaaJ
import Derived.Maps.OwnSet
import Derived.Maps.OwnOps
import Derived.Maps.Views
namespace Go.Proofs.Ytmlgjmcenjbbeaa
open Go.RowKit Go.Maps
variable {α : Type}
/-- A slice of structs, k cells each, reads as this list. -/
def RdC (f : α → List Value) (k : Nat) (W : World) (v : Value) (xs : List α) : Prop :=
  ∃ a cap, v = .slice a xs.length cap ∧ xs.length ≤ cap ∧ ∀ j x, xs[j]? = some x → ∃ b o, a = some ⟨b, o, none⟩ ∧ b < W.heap.size ∧ ∀ i u, (f x)[i]? = some u → W.cell? ⟨b, o + j * k + i, none⟩ = some u
theorem RdC.nil (f : α → List Value) (k : Nat) (W : World) : RdC f k W (.slice none 0 0) [] := ⟨none, 0, rfl, Nat.le_refl _, fun j x h => by simp at h⟩
theorem RdC.below {f : α → List Value} {k : Nat} {W W' : World} {v : Value} {xs : List α} (h : RdC f k W v xs) (hb : Below W.heap.size W W') : RdC f k W' v xs := by
  obtain ⟨a, cap, h1, h2, h3⟩ := h
  refine ⟨a, cap, h1, h2, fun j x hj => ?_⟩
  obtain ⟨b, o, h4, h5, h6⟩ := h3 j x hj
  exact ⟨b, o, h4, Nat.lt_of_lt_of_le h5 hb.size, fun i u hu => (hb.cell (p := ⟨b, o + j * k + i, none⟩) h5).trans (h6 i u hu)⟩
theorem RdC.len {f : α → List Value} {k : Nat} {W : World} {v : Value} {xs : List α} (h : RdC f k W v xs) : ∃ a cap, v = .slice a xs.length cap := by
  obtain ⟨a, cap, h1, _⟩ := h; exact ⟨a, cap, h1⟩
theorem RdC.at {f : α → List Value} {k : Nat} {W : World} {v : Value} {xs : List α} (h : RdC f k W v xs) (hx : xs ≠ []) :
    ∃ b o cap, v = .slice (some ⟨b, o, none⟩) xs.length cap ∧ xs.length ≤ cap ∧ b < W.heap.size ∧ ∀ j (hj : j < xs.length) i u, (f xs[j])[i]? = some u → W.cell? ⟨b, o + j * k + i, none⟩ = some u := by
  obtain ⟨a, cap, rfl, hc, h3⟩ := h
  match xs, hx with
  | x :: xs, _ =>
    obtain ⟨b, o, rfl, hb, _⟩ := h3 0 x rfl
    refine ⟨b, o, cap, rfl, hc, hb, fun j hj => ?_⟩
    obtain ⟨b', o', e, _, h⟩ := h3 j _ (List.getElem?_eq_getElem hj)
    cases e; exact h
theorem flat_at {f : α → List Value} {k : Nat} (hk : ∀ x, (f x).length = k) : ∀ (xs : List α) (j : Nat) (x : α), xs[j]? = some x → ∀ i u, (f x)[i]? = some u → (xs.flatMap f)[j * k + i]? = some u
  | [], j, x, h => by simp at h
  | y :: xs, 0, x, h => by
    simp at h; subst h
    intro i u hu
    rw [List.flatMap_cons, Nat.zero_mul, Nat.zero_add, List.getElem?_append_left (List.getElem?_eq_some_iff.1 hu).1]
    exact hu
  | y :: xs, j + 1, x, h => by
    intro i u hu
    have ih := flat_at hk xs j x (by simpa using h) i u hu
    rw [List.flatMap_cons, show (j + 1) * k + i = j * k + i + k by rw [Nat.add_mul]; omega, List.getElem?_append_right (by rw [hk]; omega), hk, Nat.add_sub_cancel]
    exact ih
theorem RdC.of_own {f : α → List Value} {k : Nat} (hk : ∀ x, (f x).length = k) {e : TypeId} {W : World} {B : Nat} {v : Value} {xs : List α} (h : W.ownsRow B e k v xs.length (xs.flatMap f)) : RdC f k W v xs := by
  have h' := h
  obtain ⟨_, ⟨rfl, h0⟩ | ⟨g, cap, cur, rfl, hg, hh, hc, hm, hs, ht⟩⟩ := h
  · refine ⟨none, 0, by rw [h0], by omega, fun j x hj => ?_⟩
    have : xs = [] := List.eq_nil_of_length_eq_zero h0
    subst this; simp at hj
  · refine ⟨_, cap, rfl, hc, fun j x hj => ⟨g, 0, rfl, (h'.lt g rfl).2, fun i u hu => ?_⟩⟩
    have := h'.cells (g := g) rfl (j * k + i) u (flat_at hk xs j x hj i u hu)
    have e : (⟨g, 0, none⟩ : Addr).add (j * k + i) = ⟨g, 0 + j * k + i, none⟩ := by
      unfold Addr.add; split <;> simp_all <;> omega
    rw [← e]; exact this
theorem RdC.of_all {f : α → List Value} {k : Nat} {W : World} {v : Value} {xs : List α} (b o cap : Nat) (hv : v = .slice (some ⟨b, o, none⟩) xs.length cap) (hc : xs.length ≤ cap) (hb : b < W.heap.size)
    (h : ∀ j x, xs[j]? = some x → ∀ i u, (f x)[i]? = some u → W.cell? ⟨b, o + j * k + i, none⟩ = some u) : RdC f k W v xs :=
  ⟨_, cap, hv, hc, fun j x hj => ⟨b, o, rfl, hb, h j x hj⟩⟩
def recL (r : Rec) : List Value := [.int .i64 r.at_, .int .i64 r.len, .string (S r.e.name), .int .i64 r.e.ino, .int .i64 r.e.kind]
def entL (e : Ent) : List Value := [.string (S e.name), .int .i64 e.ino, .int .i64 e.kind]
theorem recL_len (r : Rec) : (recL r).length = 5 := rfl
theorem entL_len (e : Ent) : (entL e).length = 3 := rfl
abbrev RdR := RdC recL 5
abbrev RdE := RdC entL 3
namespace Nm
theorem name_ok {l : List UInt8} (h : name l = 0) : l ≠ [] ∧ l.length ≤ 48 ∧ (0 : UInt8) ∉ l ∧ (47 : UInt8) ∉ l := by
  unfold name at h
  split at h
  · cases h
  · rename_i h1
    split at h
    · cases h
    · rename_i h2
      refine ⟨fun e => h1 (.inl e), by omega, fun e => h2 ((any_bad l).2 (.inl e)), fun e => h2 ((any_bad l).2 (.inr e))⟩
theorem chk_ok {e : Ent} (h : chk e = 0) : name e.name = 0 ∧ 1 ≤ e.ino ∧ e.ino ≤ 1048576 ∧ (e.kind = 1 ∨ e.kind = 2) := by
  unfold chk at h
  split at h
  · rename_i h1; exact absurd h h1
  · rename_i h1
    split at h
    · cases h
    · rename_i h2
      refine ⟨by simpa using h1, by omega, by omega, by omega⟩
/-- What a record that may be has. -/
structure IsRec (b : List UInt8) (a : Nat) (r : Rec) : Prop where
  at_ : r.at_ = a
  len8 : 8 ≤ r.len
  len4 : r.len % 4 = 0
  fits : a + r.len ≤ b.length
  name48 : r.e.name.length ≤ 48
  name8 : r.e.name.length + 8 ≤ r.len
  own : Nm.own r ≤ r.len
  none_ : r.e.ino = 0 → r.e.name = [] ∧ r.e.kind = 0
  some_ : r.e.ino ≠ 0 → chk r.e = 0
  ino0 : 0 ≤ r.e.ino
theorem one_is {b : List UInt8} {a : Nat} {r : Rec} (h : one b a = some r) : IsRec b a r := by
  unfold one at h
  split at h
  case isFalse => cases h
  case isTrue hg =>
    cases h
    obtain ⟨h1, h2, h3, h4, h5, h6⟩ := hg
    have hn : (nameAt b a).length = klen b a := by unfold nameAt; rw [List.length_take, List.length_drop]; omega
    by_cases h0 : inoAt b a = 0
    · rw [if_pos h0] at h6
      have hn0 : nameAt b a = [] := List.eq_nil_of_length_eq_zero (by omega)
      refine ⟨rfl, ?_, ?_, ?_, ?_, ?_, ?_, fun _ => ⟨hn0, ?_⟩, fun h => absurd ?_ h, ?_⟩
      · show (8 : Int) ≤ (lenAt b a : Int); omega
      · show (lenAt b a : Int) % 4 = 0; omega
      · show (a : Int) + (lenAt b a : Int) ≤ b.length; omega
      · show (nameAt b a).length ≤ 48; omega
      · show ((nameAt b a).length : Int) + 8 ≤ (lenAt b a : Int); omega
      · unfold Nm.own; rw [if_pos (by show (inoAt b a : Int) = 0; omega)]; show (8 : Int) ≤ (lenAt b a : Int); omega
      · show (knd b a : Int) = 0; omega
      · show (inoAt b a : Int) = 0; omega
      · show (0 : Int) ≤ (inoAt b a : Int); omega
    · rw [if_neg h0] at h6
      obtain ⟨hc, hne⟩ := h6
      have hok := (chk_ok hc).1
      have hl := (name_ok hok).2.1
      refine ⟨rfl, ?_, ?_, ?_, hl, ?_, ?_, fun h => absurd h ?_, fun _ => hc, ?_⟩
      · show (8 : Int) ≤ (lenAt b a : Int); omega
      · show (lenAt b a : Int) % 4 = 0; omega
      · show (a : Int) + (lenAt b a : Int) ≤ b.length; omega
      · show ((nameAt b a).length : Int) + 8 ≤ (lenAt b a : Int); omega
      · unfold Nm.own; rw [if_neg (by show ¬ (inoAt b a : Int) = 0; omega)]; show ((need (nameAt b a) : Nat) : Int) ≤ (lenAt b a : Int); omega
      · show ¬ (inoAt b a : Int) = 0; omega
      · show (0 : Int) ≤ (inoAt b a : Int); omega
/-- Does a record's name stand in one before it? -/
def dup (acc : List Rec) (r : Rec) : Bool := decide (r.e.ino ≠ 0) && acc.any fun q => decide (q.e.ino ≠ 0) && q.e.name == r.e.name
def recsAt (b : List UInt8) : Nat → Nat → List Rec → Option (List Rec)
  | 0, _, _ => none
  | f + 1, a, acc => if a = 256 then some acc else
    match one b a with
    | none => none
    | some r => if dup acc r then none else recsAt b f (a + r.len.toNat) (acc ++ [r])
/-- The records of a block. -/
def recs (b : List UInt8) : Option (List Rec) := if b.length = 256 then recsAt b 257 0 [] else none
theorem recsAt_end (b : List UInt8) (f : Nat) (acc : List Rec) : recsAt b (f + 1) 256 acc = some acc := by
  unfold recsAt; rw [if_pos rfl]
theorem recsAt_none {b : List UInt8} {f a : Nat} {acc : List Rec} (ha : a ≠ 256) (h : one b a = none) : recsAt b (f + 1) a acc = none := by
  unfold recsAt; rw [if_neg ha, h]
theorem recsAt_dup {b : List UInt8} {f a : Nat} {acc : List Rec} {r : Rec} (ha : a ≠ 256) (h : one b a = some r) (hd : dup acc r = true) : recsAt b (f + 1) a acc = none := by
  unfold recsAt; rw [if_neg ha, h]; simp only; rw [if_pos hd]
theorem recsAt_some {b : List UInt8} {f a : Nat} {acc : List Rec} {r : Rec} (ha : a ≠ 256) (h : one b a = some r) (hd : dup acc r = false) : recsAt b (f + 1) a acc = recsAt b f (a + r.len.toNat) (acc ++ [r]) := by
  rw [recsAt, if_neg ha, h]; simp only; rw [if_neg (by rw [hd]; simp)]
/-- Every one is a record of the block. -/
def AllRec (b : List UInt8) (acc : List Rec) : Prop := ∀ q ∈ acc, ∃ a, one b a = some q
theorem AllRec.snoc {b : List UInt8} {acc : List Rec} {r : Rec} {a : Nat} (h : AllRec b acc) (h1 : one b a = some r) : AllRec b (acc ++ [r]) := by
  intro q hq
  rcases List.mem_append.1 hq with h' | h'
  · exact h q h'
  · obtain rfl := List.mem_singleton.1 h'; exact ⟨a, h1⟩
theorem dup_seen {b : List UInt8} {acc : List Rec} {r : Rec} (h : AllRec b acc) (hi : r.e.ino ≠ 0) (hc : chk r.e = 0) : dup acc r = (acc.map fun q => q.e.name).contains r.e.name := by
  unfold dup
  rw [decide_eq_true hi, Bool.true_and]
  induction acc with
  | nil => rfl
  | cons q acc ih =>
    rw [List.any_cons, List.map_cons, List.contains_cons, ih (fun x hx => h x (List.mem_cons_of_mem _ hx))]
    congr 1
    by_cases h0 : q.e.ino = 0
    · obtain ⟨a, ha⟩ := h q (List.mem_cons_self ..)
      have hn := ((one_is ha).none_ h0).1
      have hne := (name_ok (chk_ok hc).1).1
      rw [hn]
      have : (r.e.name == ([] : List UInt8)) = false := by simpa using hne
      rw [this]; simp [h0]
    · rw [decide_eq_true h0, Bool.true_and, Bool.beq_comm]
end Nm
/-- The map of the names seen. -/
def seenD (ks : List (List UInt8)) : DataW Unit := ks.foldl (fun m k => m.put (.string k) (.lit (.bool true))) (.map [])
theorem seenD_snoc (ks : List (List UInt8)) (k : List UInt8) : seenD (ks ++ [k]) = (seenD ks).put (.string k) (.lit (.bool true)) := by
  simp [seenD, List.foldl_append]
theorem seenD_map (ks : List (List UInt8)) : IsMap (seenD ks) := by
  unfold seenD
  have : ∀ (ks : List (List UInt8)) (m : DataW Unit), IsMap m → IsMap (ks.foldl (fun m k => m.put (.string k) (.lit (.bool true))) m) := by
    intro ks
    induction ks with
    | nil => intro m h; exact h
    | cons k ks ih => intro m h; exact ih _ (h.put _ _)
  exact this ks _ isMap_empty
theorem seenD_at (ks : List (List UInt8)) (k : List UInt8) : (seenD ks).atKey (.string k) (.lit (.bool false)) = .lit (.bool (ks.contains k)) := by
  have : ∀ (n : Nat) (ks : List (List UInt8)), ks.length = n → (seenD ks).atKey (.string k) (.lit (.bool false)) = .lit (.bool (ks.contains k)) := by
    intro n
    induction n with
    | zero => intro ks h; rw [List.eq_nil_of_length_eq_zero h]; rfl
    | succ n ih =>
      intro ks h
      have hne : ks ≠ [] := by intro e; rw [e] at h; simp at h
      rw [← List.dropLast_concat_getLast hne, seenD_snoc]
      have hd := ih ks.dropLast (by simp [h])
      obtain ⟨l, hl⟩ : ∃ l, ks.getLast hne = l := ⟨_, rfl⟩
      rw [hl]
      by_cases hk : l = k
      · subst hk
        rw [atKey_put_same (seenD_map _) (by trivial)]
        simp
      · rw [atKey_put_other (fun e => hk (by cases e; rfl)), hd]
        have : (k == l) = false := by simpa using fun e => hk e.symm
        simp [this]
        exact fun e => absurd e.symm hk
  exact this _ ks rfl
end Go.Proofs.Ytmlgjmcenjbbeaa
