/- The records of a block, one behind another; what a block is without an entry, and with an entry turned. -/
import Derived.Test.YtmlgjmcenjbbeaaAb
namespace Go.Proofs.Ytmlgjmcenjbbeaa
open Go.RowKit
namespace Nm
/-- From a place on these records stand one behind another, up to the end. -/
def Lay (b : List UInt8) : Nat → List Rec → Prop
  | a, [] => a = 256
  | a, r :: l => a ≠ 256 ∧ one b a = some r ∧ Lay b (a + r.len.toNat) l
/-- No two names are alike. -/
def Uniq : List Rec → List Rec → Prop
  | _, [] => True
  | acc, r :: l => dup acc r = false ∧ Uniq (acc ++ [r]) l
theorem recsAt_lay (b : List UInt8) : ∀ (f a : Nat) (acc L : List Rec), recsAt b f a acc = some L → ∃ l, L = acc ++ l ∧ Lay b a l ∧ Uniq acc l
  | 0, _, _, _, h => by cases h
  | f + 1, a, acc, L, h => by
    by_cases ha : a = 256
    · subst ha
      rw [recsAt_end] at h
      cases h
      exact ⟨[], by simp, rfl, trivial⟩
    · rcases h1 : one b a with _ | r
      · rw [recsAt_none ha h1] at h; cases h
      · rcases hd : dup acc r with _ | _
        · rw [recsAt_some ha h1 hd] at h
          obtain ⟨l, rfl, hl, hu⟩ := recsAt_lay b f _ _ L h
          exact ⟨r :: l, by simp, ⟨ha, h1, hl⟩, hd, hu⟩
        · rw [recsAt_dup ha h1 hd] at h; cases h
theorem lay_recsAt (b : List UInt8) (hb : b.length = 256) : ∀ (l : List Rec) (f a : Nat) (acc : List Rec), Lay b a l → Uniq acc l → 256 < f + a → a ≤ 256 → recsAt b f a acc = some (acc ++ l)
  | [], f, a, acc, h, _, hf, _ => by
    obtain rfl : a = 256 := h
    obtain ⟨f, rfl⟩ : ∃ g, f = g + 1 := ⟨f - 1, by omega⟩
    rw [recsAt_end]; simp
  | r :: l, f, a, acc, h, hu, hf, ha => by
    obtain ⟨h0, h1, h2⟩ := h
    obtain ⟨f, rfl⟩ : ∃ g, f = g + 1 := ⟨f - 1, by omega⟩
    have hi := one_is h1
    have h3 := hi.len8
    have h4 := hi.fits
    rw [recsAt_some h0 h1 hu.1, lay_recsAt b hb l f _ _ h2 hu.2 (by omega) (by omega)]
    simp
theorem recs_lay {b : List UInt8} {l : List Rec} (h : recs b = some l) : b.length = 256 ∧ Lay b 0 l ∧ Uniq [] l := by
  have hb := recs_len h
  unfold recs at h
  rw [if_pos hb] at h
  obtain ⟨l', rfl, h1, h2⟩ := recsAt_lay b _ _ _ _ h
  exact ⟨hb, h1, h2⟩
theorem lay_recs {b : List UInt8} {l : List Rec} (hb : b.length = 256) (h : Lay b 0 l) (hu : Uniq [] l) : recs b = some l := by
  unfold recs
  rw [if_pos hb, lay_recsAt b hb l 257 0 [] h hu (by omega) (by omega)]
  simp
theorem lay_one {b : List UInt8} : ∀ {l : List Rec} {a : Nat}, Lay b a l → ∀ (i : Nat) (h : i < l.length), ∃ k : Nat, l[i].at_ = k ∧ one b k = some l[i]
  | r :: l, a, ⟨_, h1, _⟩, 0, _ => ⟨a, (one_is h1).at_, h1⟩
  | r :: l, a, ⟨_, _, h2⟩, i + 1, h => lay_one h2 i (by simpa using h)
theorem lay_head {b : List UInt8} {l : List Rec} {a : Nat} (hl : Lay b a l) (h : 0 < l.length) : l[0].at_ = a := by
  match l, hl, h with
  | r :: l, ⟨_, h1, _⟩, _ => exact (one_is h1).at_
theorem lay_next {b : List UInt8} : ∀ {l : List Rec} {a : Nat}, Lay b a l → ∀ (i : Nat) (h : i + 1 < l.length), l[i + 1].at_ = l[i].at_ + l[i].len
  | r :: l, a, ⟨_, h1, h2⟩, 0, h => by
    have h3 := lay_head h2 (by simpa using h)
    have hi := one_is h1
    have h4 := hi.len8
    have h5 := hi.at_
    show (l[0]'(by simpa using h)).at_ = r.at_ + r.len
    omega
  | r :: l, a, ⟨_, _, h2⟩, i + 1, h => lay_next h2 i (by simpa using h)
def remRec (b : List UInt8) (l : List Rec) (k : Nat) : List UInt8 :=
  match l[k]?, l[k - 1]? with
  | some r, some q => if k = 0 then put b ⟨0, r.len, ⟨[], 0, 0⟩⟩ else put b ⟨q.at_, q.len + r.len, q.e⟩
  | _, _ => b
/-- A block without an entry, or an error. -/
def rem (b : List UInt8) (n : List UInt8) : Option (List UInt8) × Int :=
  match recs b with
  | none => (none, 160)
  | some l => if l.any (isNamed n) then (some (remRec b l (l.findIdx (isNamed n))), 0) else (none, 4)
/-- A block in which a name is another inode's, or an error. -/
def turn (b : List UInt8) (e : Ent) : Option (List UInt8) × Int :=
  if chk e ≠ 0 then (none, chk e) else
  match recs b with
  | none => (none, 160)
  | some l =>
    match l[l.findIdx (isNamed e.name)]? with
    | some r => (some (put b ⟨r.at_, r.len, e⟩), 0)
    | none => (none, 4)
theorem remRec_zero {b : List UInt8} {l : List Rec} (h : 0 < l.length) : remRec b l 0 = put b ⟨0, l[0].len, ⟨[], 0, 0⟩⟩ := by
  unfold remRec
  rw [List.getElem?_eq_getElem h]
  rfl
theorem remRec_succ {b : List UInt8} {l : List Rec} {k : Nat} (h : k + 1 < l.length) : remRec b l (k + 1) = put b ⟨l[k].at_, l[k].len + l[k + 1].len, l[k].e⟩ := by
  unfold remRec
  rw [List.getElem?_eq_getElem h, show k + 1 - 1 = k from rfl, List.getElem?_eq_getElem (show k < l.length by omega)]
  rfl
theorem fits_zero {b : List UInt8} {l : List Rec} (h : recs b = some l) (h0 : 0 < l.length) : Fits ⟨0, l[0].len, ⟨[], 0, 0⟩⟩ := by
  obtain ⟨hb, hl, _⟩ := recs_lay h
  obtain ⟨k, h1, h2⟩ := lay_one hl 0 h0
  have hi := one_is h2
  have h3 := hi.fits
  have h4 := hi.len8
  rw [hb] at h3
  refine ⟨?_, ?_, ?_, ?_, ?_, ?_, ?_, ?_⟩ <;> (try dsimp only) <;> (try simp) <;> omega
theorem fits_merge {b : List UInt8} {l : List Rec} {k : Nat} (h : recs b = some l) (hk : k + 1 < l.length) : Fits ⟨l[k].at_, l[k].len + l[k + 1].len, l[k].e⟩ ∧ l[k].len + l[k + 1].len ≤ 256 := by
  obtain ⟨hb, hl, _⟩ := recs_lay h
  obtain ⟨a, h1, h2⟩ := lay_one hl k (by omega)
  obtain ⟨c, h3, h4⟩ := lay_one hl (k + 1) hk
  have hn := lay_next hl k hk
  have i1 := one_is h2
  have i2 := one_is h4
  have a1 := i1.fits
  have a2 := i1.len8
  have a3 := i1.name8
  have b1 := i2.fits
  have b2 := i2.len8
  have hino : 0 ≤ l[k].e.ino ∧ l[k].e.ino < 4294967296 ∧ 0 ≤ l[k].e.kind ∧ l[k].e.kind < 256 := by
    by_cases h0 : l[k].e.ino = 0
    · have := (i1.none_ h0).2; omega
    · obtain ⟨_, d2, d3, d4⟩ := chk_ok (i1.some_ h0); omega
  rw [hb] at a1 b1
  refine ⟨⟨?_, ?_, ?_, ?_, ?_, ?_, ?_, ?_⟩, ?_⟩ <;> (try dsimp only) <;> omega
theorem isNamed_spec {n : List UInt8} {r : Rec} (h : isNamed n r = true) : r.e.ino ≠ 0 ∧ r.e.name = n := by
  unfold isNamed at h
  simpa using h
theorem fits_turn {b : List UInt8} {l : List Rec} {k : Nat} {e : Ent} (h : recs b = some l) (hk : k < l.length) (hc : chk e = 0) (hn : isNamed e.name l[k] = true) : Fits ⟨l[k].at_, l[k].len, e⟩ := by
  obtain ⟨hb, hl, _⟩ := recs_lay h
  obtain ⟨a, h1, h2⟩ := lay_one hl k hk
  have i1 := one_is h2
  have a1 := i1.fits
  have a2 := i1.len8
  have a3 := i1.name8
  obtain ⟨_, hnm⟩ := isNamed_spec hn
  rw [hnm] at a3
  obtain ⟨_, d2, d3, d4⟩ := chk_ok hc
  rw [hb] at a1
  refine ⟨?_, ?_, ?_, ?_, ?_, ?_, ?_, ?_⟩ <;> (try dsimp only) <;> omega
end Nm
end Go.Proofs.Ytmlgjmcenjbbeaa
