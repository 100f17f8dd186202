/- What putting a record does to a block's records. -/
import Derived.Test.YtmlgjmcenjbbeaaAf
namespace Go.Proofs.Ytmlgjmcenjbbeaa
open Go.RowKit
namespace Nm
/-- Two blocks have the same bytes from a place to a place. -/
def Agree (b b' : List UInt8) (i j : Nat) : Prop := b'.length = b.length ∧ ∀ k, i ≤ k → k < j → b'[k]? = b[k]?
theorem Agree.part {b b' : List UInt8} {i j i' j' : Nat} (h : Agree b b' i j) (h1 : i ≤ i') (h2 : j' ≤ j) : Agree b b' i' j' := ⟨h.1, fun k h3 h4 => h.2 k (by omega) (by omega)⟩
theorem Agree.cut {b b' : List UInt8} {i j : Nat} (h : Agree b b' i j) (n : Nat) (hn : i + n ≤ j) : (b'.drop i).take n = (b.drop i).take n := by
  apply List.ext_getElem?
  intro k
  rw [List.getElem?_take, List.getElem?_take]
  split
  · rw [List.getElem?_drop, List.getElem?_drop]; exact h.2 _ (by omega) (by omega)
  · rfl
theorem Agree.get {b b' : List UInt8} {i j : Nat} (h : Agree b b' i j) (k : Nat) (h1 : i ≤ k) (h2 : k < j) : b'.getD k 0 = b.getD k 0 := by
  rw [List.getD_eq_getElem?_getD, List.getD_eq_getElem?_getD, h.2 k h1 h2]
theorem one_agree {b b' : List UInt8} {a : Nat} {r : Rec} (h : one b a = some r) (hg : Agree b b' a (a + r.len.toNat)) : one b' a = some r := by
  unfold one at h
  split at h
  case isFalse => cases h
  case isTrue hgd =>
    cases h
    have hgd' := hgd
    obtain ⟨h1, h2, h3, h4, h5, h6⟩ := hgd
    have hlen : (recAt b a).len.toNat = lenAt b a := by show ((lenAt b a : Nat) : Int).toNat = _; omega
    rw [hlen] at hg
    have e1 : klen b' a = klen b a := by unfold klen; rw [hg.get (a + 6) (by omega) (by omega)]
    have e2 : knd b' a = knd b a := by unfold knd; rw [hg.get (a + 7) (by omega) (by omega)]
    have e3 : inoAt b' a = inoAt b a := by unfold inoAt; rw [(hg.part (j' := a + 4) (Nat.le_refl _) (by omega)).cut 4 (by omega)]
    have e4 : lenAt b' a = lenAt b a := by unfold lenAt; rw [(hg.part (i' := a + 4) (j' := a + 6) (by omega) (by omega)).cut 2 (by omega)]
    have e5 : nameAt b' a = nameAt b a := by unfold nameAt; rw [e1, (hg.part (i' := a + 8) (by omega) (Nat.le_refl _)).cut (klen b a) (by omega)]
    have e6 : recAt b' a = recAt b a := by unfold recAt; rw [e2, e3, e4, e5]
    have hgd2 : Good b' a := by
      unfold Good at hgd' ⊢
      rw [e1, e2, e3, e4, e5, e6, hg.1]
      exact hgd'
    rw [one_yes hgd2, e6]
/-- Records one behind another from a place to a place. -/
def Path (b : List UInt8) : Nat → List Rec → Nat → Prop
  | a, [], z => a = z
  | a, r :: l, z => one b a = some r ∧ Path b (a + r.len.toNat) l z
theorem path_le {b : List UInt8} : ∀ {l : List Rec} {a z : Nat}, Path b a l z → a ≤ z
  | [], a, z, h => by have h : a = z := h; omega
  | r :: l, a, z, h => by have := path_le h.2; omega
theorem path_append {b : List UInt8} : ∀ {l k : List Rec} {a z : Nat}, Path b a (l ++ k) z ↔ ∃ m, Path b a l m ∧ Path b m k z
  | [], k, a, z => ⟨fun h => ⟨a, rfl, h⟩, fun ⟨m, h1, h2⟩ => by have h1 : a = m := h1; subst h1; exact h2⟩
  | r :: l, k, a, z => ⟨fun ⟨h1, h2⟩ => by obtain ⟨m, h3, h4⟩ := path_append.1 h2; exact ⟨m, ⟨h1, h3⟩, h4⟩, fun ⟨m, ⟨h1, h3⟩, h4⟩ => ⟨h1, path_append.2 ⟨m, h3, h4⟩⟩⟩
theorem path_agree {b b' : List UInt8} : ∀ {l : List Rec} {a z : Nat}, Path b a l z → Agree b b' a z → Path b' a l z
  | [], a, z, h, _ => h
  | r :: l, a, z, ⟨h1, h2⟩, hg => ⟨one_agree h1 (hg.part (Nat.le_refl _) (path_le h2)), path_agree h2 (hg.part (by omega) (Nat.le_refl _))⟩
theorem lay_path {b : List UInt8} (hb : b.length = 256) : ∀ {l : List Rec} {a : Nat}, Lay b a l ↔ Path b a l 256
  | [], a => Iff.rfl
  | r :: l, a => ⟨fun ⟨_, h1, h2⟩ => ⟨h1, (lay_path hb).1 h2⟩, fun ⟨h1, h2⟩ => ⟨by have hi := one_is h1; have := hi.fits; have := hi.len8; omega, h1, (lay_path hb).2 h2⟩⟩
/-- The names of the entries. -/
def names (l : List Rec) : List (List UInt8) := (entsOf l).map (·.name)
theorem entsOf_append (l k : List Rec) : entsOf (l ++ k) = entsOf l ++ entsOf k := by unfold entsOf; rw [List.filter_append, List.map_append]
theorem names_append (l k : List Rec) : names (l ++ k) = names l ++ names k := by unfold names; rw [entsOf_append, List.map_append]
theorem entsOf_ent {r : Rec} (h : r.e.ino ≠ 0) : entsOf [r] = [r.e] := by unfold entsOf isEnt; simp [h]
theorem entsOf_not {r : Rec} (h : r.e.ino = 0) : entsOf [r] = [] := by unfold entsOf isEnt; simp [h]
theorem entsOf_cons (r : Rec) (l : List Rec) : entsOf (r :: l) = entsOf [r] ++ entsOf l := entsOf_append [r] l
theorem any_named (l : List Rec) (n : List UInt8) : l.any (isNamed n) = true ↔ n ∈ names l := by
  unfold names entsOf isNamed isEnt
  rw [List.any_eq_true]
  simp only [List.mem_map, List.mem_filter, Bool.and_eq_true, decide_eq_true_eq, beq_iff_eq]
  constructor
  · rintro ⟨r, h1, h2, h3⟩; exact ⟨r.e, ⟨r, ⟨h1, h2⟩, rfl⟩, h3⟩
  · rintro ⟨_, ⟨r, ⟨h1, h2⟩, rfl⟩, h3⟩; exact ⟨r, h1, h2, h3⟩
theorem dup_named (l : List Rec) (r : Rec) : dup l r = (decide (r.e.ino ≠ 0) && l.any (isNamed r.e.name)) := rfl
theorem uniq_nodup : ∀ (l acc : List Rec), (names acc).Nodup → (Uniq acc l ↔ (names (acc ++ l)).Nodup)
  | [], acc, h => by rw [List.append_nil]; exact ⟨fun _ => h, fun _ => trivial⟩
  | r :: l, acc, h => by
    have hs : acc ++ r :: l = (acc ++ [r]) ++ l := by simp
    rw [hs]
    show dup acc r = false ∧ Uniq (acc ++ [r]) l ↔ _
    by_cases h0 : r.e.ino = 0
    · have hn : names (acc ++ [r]) = names acc := by rw [names_append]; unfold names; rw [entsOf_not h0]; simp
      rw [uniq_nodup l (acc ++ [r]) (by rw [hn]; exact h)]
      rw [dup_named, show decide (r.e.ino ≠ 0) = false by simpa using h0]
      simp
    · have hn : names (acc ++ [r]) = names acc ++ [r.e.name] := by rw [names_append]; unfold names; rw [entsOf_ent h0]; rfl
      have hd : dup acc r = false ↔ r.e.name ∉ names acc := by
        rw [dup_named, show decide (r.e.ino ≠ 0) = true by simpa using h0, Bool.true_and, ← any_named]
        simp
      rw [hd]
      constructor
      · rintro ⟨h1, h2⟩
        refine (uniq_nodup l (acc ++ [r]) ?_).1 h2
        rw [hn]
        exact List.nodup_append.2 ⟨h, by simp, fun a ha b hb e => by rw [List.mem_singleton.1 hb] at e; subst e; exact h1 ha⟩
      · intro h1
        have h2 : (names (acc ++ [r])).Nodup := by rw [names_append] at h1; exact (List.nodup_append.1 h1).1
        refine ⟨?_, (uniq_nodup l (acc ++ [r]) h2).2 h1⟩
        rw [hn] at h2
        intro hm
        exact (List.nodup_append.1 h2).2.2 _ hm _ (List.mem_singleton.2 rfl) rfl
theorem recs_iff {b : List UInt8} {l : List Rec} : recs b = some l ↔ b.length = 256 ∧ Path b 0 l 256 ∧ (names l).Nodup := by
  constructor
  · intro h
    obtain ⟨hb, h1, h2⟩ := recs_lay h
    exact ⟨hb, (lay_path hb).1 h1, by have := (uniq_nodup l [] List.nodup_nil).1 h2; simpa using this⟩
  · rintro ⟨hb, h1, h2⟩
    exact lay_recs hb ((lay_path hb).2 h1) ((uniq_nodup l [] List.nodup_nil).2 (by simpa using h2))
theorem path_det {b : List UInt8} : ∀ {l : List Rec} {a z z' : Nat}, Path b a l z → Path b a l z' → z = z'
  | [], a, z, z', h, h' => by have h : a = z := h; have h' : a = z' := h'; omega
  | r :: l, a, z, z', h, h' => path_det h.2 h'.2
theorem Agree.trans {b c d : List UInt8} {i j : Nat} (h : Agree b c i j) (k : Agree c d i j) : Agree b d i j := ⟨k.1.trans h.1, fun x h1 h2 => (k.2 x h1 h2).trans (h.2 x h1 h2)⟩
/-- A block of which some part became other records. -/
theorem recs_swap {b b' : List UInt8} {l1 old mid l2 : List Rec} {a z : Nat} (h : recs b = some (l1 ++ old ++ l2)) (hp : Path b 0 l1 a) (ho : Path b a old z)
    (hlo : Agree b b' 0 a) (hhi : Agree b b' z 256) (hm : Path b' a mid z) (hn : (names (l1 ++ mid ++ l2)).Nodup) : recs b' = some (l1 ++ mid ++ l2) := by
  obtain ⟨hb, h1, _⟩ := recs_iff.1 h
  obtain ⟨m, h2, h3⟩ := path_append.1 h1
  obtain ⟨m', h4, h5⟩ := path_append.1 h2
  obtain rfl := path_det h4 hp
  obtain rfl := path_det h5 ho
  exact recs_iff.2 ⟨hlo.1.trans hb, path_append.2 ⟨m, path_append.2 ⟨m', path_agree hp hlo, hm⟩, path_agree h3 hhi⟩, hn⟩
/-- A record that may be put and read again. -/
structure Legal (r : Rec) : Prop where
  at0 : 0 ≤ r.at_
  len8 : 8 ≤ r.len
  len4 : r.len % 4 = 0
  fits : r.at_ + r.len ≤ 256
  own : Nm.own r ≤ r.len
  none_ : r.e.ino = 0 → r.e.name = [] ∧ r.e.kind = 0
  some_ : r.e.ino ≠ 0 → chk r.e = 0
theorem legal_of {b : List UInt8} {a : Nat} {r : Rec} (hb : b.length = 256) (h : one b a = some r) : Legal r := by
  have hi := one_is h
  have h1 := hi.at_
  have h2 := hi.fits
  rw [hb] at h2
  exact ⟨by omega, hi.len8, hi.len4, by omega, hi.own, hi.none_, hi.some_⟩
theorem Legal.fit {r : Rec} (h : Legal r) : Fits r := by
  obtain ⟨h1, h2, h3, h4, h5, h6, h7⟩ := h
  have ho := own_ge r
  by_cases h0 : r.e.ino = 0
  · obtain ⟨e1, e2⟩ := h6 h0
    have hl : r.e.name.length = 0 := by rw [e1]; rfl
    refine ⟨h1, ?_, ?_, ?_, ?_, ?_, ?_, ?_⟩ <;> omega
  · obtain ⟨c1, c2, c3, c4⟩ := chk_ok (h7 h0)
    have := ho.2 h0
    refine ⟨h1, ?_, ?_, ?_, ?_, ?_, ?_, ?_⟩ <;> omega
theorem cut8 (l : List UInt8) (a : Nat) (h : a + 8 ≤ l.length) : ∃ p x0 x1 x2 x3 x4 x5 x6 x7 q, l = p ++ x0 :: x1 :: x2 :: x3 :: x4 :: x5 :: x6 :: x7 :: q ∧ p.length = a := by
  have hl : (l.drop a).length = l.length - a := List.length_drop
  refine ⟨l.take a, ?_⟩
  match hd : l.drop a, hl with
  | x0 :: x1 :: x2 :: x3 :: x4 :: x5 :: x6 :: x7 :: q, _ => exact ⟨x0, x1, x2, x3, x4, x5, x6, x7, q, by rw [← hd, List.take_append_drop], by rw [List.length_take]; omega⟩
  | [], hl => simp at hl; omega
  | [_], hl => simp at hl; omega
  | [_, _], hl => simp at hl; omega
  | [_, _, _], hl => simp at hl; omega
  | [_, _, _, _], hl => simp at hl; omega
  | [_, _, _, _, _], hl => simp at hl; omega
  | [_, _, _, _, _, _], hl => simp at hl; omega
  | [_, _, _, _, _, _, _], hl => simp at hl; omega
def head8 (n len k kd : Nat) : List UInt8 := [hb n 24, hb n 16, hb n 8, hb n 0, hb len 8, hb len 0, hb k 0, hb kd 0]
theorem headSet_is (bs : List UInt8) (a n len k kd : Nat) (h : a + 8 ≤ bs.length) : headSet bs a n len k kd = bs.take a ++ head8 n len k kd ++ bs.drop (a + 8) := by
  obtain ⟨p, x0, x1, x2, x3, x4, x5, x6, x7, q, rfl, rfl⟩ := cut8 bs a h
  unfold headSet inoSet head8
  simp [List.range_succ, List.drop_append]
theorem put_is (bs : List UInt8) (a len n kd : Nat) (nm : List UInt8) (h : a + 8 + nm.length ≤ bs.length) :
    put bs ⟨a, len, ⟨nm, n, kd⟩⟩ = bs.take a ++ (head8 n len nm.length kd ++ nm) ++ bs.drop (a + 8 + nm.length) := by
  show splice (headSet bs a n len nm.length kd) (a + 8) nm = _
  rw [headSet_is _ _ _ _ _ _ (by omega)]
  unfold splice
  have h8 : (head8 n len nm.length kd).length = 8 := rfl
  have ht : (bs.take a).length = a := by rw [List.length_take]; omega
  rw [List.take_append_of_le_length (by rw [List.length_append, ht, h8]; exact Nat.le_refl _), List.take_of_length_le (by rw [List.length_append, ht, h8]; exact Nat.le_refl _)]
  rw [List.drop_append, List.drop_eq_nil_of_le (by rw [List.length_append, ht, h8]; omega), List.nil_append, List.drop_drop, List.length_append, ht, h8]
  rw [show a + 8 + (a + 8 + nm.length - (a + 8)) = a + 8 + nm.length by omega]
  simp
theorem num4_is (n : Nat) (h : n < 4294967296) : num [hb n 24, hb n 16, hb n 8, hb n 0] = n := by
  unfold num hb
  simp only [List.foldl_cons, List.foldl_nil, UInt8.toNat_ofNat']
  omega
theorem num2_is (n : Nat) (h : n < 65536) : num [hb n 8, hb n 0] = n := by
  unfold num hb
  simp only [List.foldl_cons, List.foldl_nil, UInt8.toNat_ofNat']
  omega
theorem one_put {bs : List UInt8} {r : Rec} (hbs : bs.length = 256) (h : Legal r) : one (put bs r) r.at_.toNat = some r := by
  have hf := h.fit
  obtain ⟨a, len, n, kd, hr, h1, h2, h3, h4⟩ := hf.nat
  obtain ⟨nm, hnm⟩ : ∃ nm, r.e.name = nm := ⟨_, rfl⟩
  rw [hnm] at hr h1
  subst hr
  have hp := put_is bs a len n kd nm (by omega)
  obtain ⟨p, hpp⟩ : ∃ p, put bs ⟨a, len, ⟨nm, n, kd⟩⟩ = p := ⟨_, rfl⟩
  rw [hpp] at hp ⊢
  have ht : (bs.take a).length = a := by rw [List.length_take]; omega
  have hpl : p.length = 256 := by rw [← hpp]; exact put_length hbs hf
  have hd : p.drop a = head8 n len nm.length kd ++ (nm ++ bs.drop (a + 8 + nm.length)) := by
    rw [hp, List.append_assoc, List.drop_append_of_le_length (by omega), List.drop_eq_nil_of_le (by omega)]; simp
  have hd4 : p.drop (a + 4) = [hb len 8, hb len 0, hb nm.length 0, hb kd 0] ++ (nm ++ bs.drop (a + 8 + nm.length)) := by
    rw [← List.drop_drop, hd]; rfl
  have hd8 : p.drop (a + 8) = nm ++ bs.drop (a + 8 + nm.length) := by
    rw [← List.drop_drop, hd]; rfl
  have hat : ∀ i, p.getD (a + i) 0 = (p.drop a).getD i 0 := fun i => by rw [List.getD_eq_getElem?_getD, List.getD_eq_getElem?_getD, List.getElem?_drop]
  have hk : nm.length < 256 := by omega
  have e1 : klen p a = nm.length := by
    unfold klen; rw [hat, hd]
    show (hb nm.length 0).toNat = _
    unfold hb; simp; omega
  have e2 : knd p a = kd := by
    unfold knd; rw [hat, hd]
    show (hb kd 0).toNat = _
    unfold hb; simp; omega
  have e3 : inoAt p a = n := by
    unfold inoAt; rw [hd]
    show num [hb n 24, hb n 16, hb n 8, hb n 0] = n
    exact num4_is n h2
  have e4 : lenAt p a = len := by
    unfold lenAt; rw [hd4]
    show num [hb len 8, hb len 0] = len
    exact num2_is len h3
  have e5 : nameAt p a = nm := by
    unfold nameAt; rw [e1, hd8, List.take_append_of_le_length (Nat.le_refl _), List.take_length]
  have e6 : recAt p a = ⟨a, len, ⟨nm, n, kd⟩⟩ := by unfold recAt; rw [e2, e3, e4, e5]
  obtain ⟨g1, g2, g3, g4, g5, g6, g7⟩ := h
  dsimp only at g1 g2 g3 g4 g5 g6 g7
  have hgd : Good p a := by
    have ho := own_ge ⟨a, len, ⟨nm, n, kd⟩⟩
    dsimp only at ho
    unfold Good
    rw [e1, e2, e3, e4, e5, e6, hpl]
    refine ⟨by omega, by omega, by omega, by omega, ?_, ?_⟩
    · by_cases h0 : n = 0
      · have := (g6 (by omega)).1; rw [this]; simp; omega
      · have := ho.2 (by omega); omega
    · split
      · rename_i h0
        obtain ⟨k1, k2⟩ := g6 (by omega)
        exact ⟨by rw [k1]; rfl, by omega⟩
      · rename_i h0
        refine ⟨g7 (by omega), ?_⟩
        unfold Nm.own at g5
        rw [if_neg (by dsimp only; omega)] at g5
        dsimp only at g5
        omega
  show one p (a : Int).toNat = _
  rw [Int.toNat_natCast, one_yes hgd, e6]
theorem put_agree {bs : List UInt8} {r : Rec} (hbs : bs.length = 256) (h : Legal r) : Agree bs (put bs r) 0 r.at_.toNat ∧ Agree bs (put bs r) (r.at_ + r.len).toNat 256 := by
  have hf := h.fit
  have ho := own_ge r
  have hown := h.own
  have h8 := h.len8
  have hz : r.e.name.length + 8 ≤ r.len := by
    by_cases h0 : r.e.ino = 0
    · rw [(h.none_ h0).1]; simp; omega
    · have := ho.2 h0; omega
  obtain ⟨a, len, n, kd, hr, h1, h2, h3, h4⟩ := hf.nat
  obtain ⟨nm, hnm⟩ : ∃ nm, r.e.name = nm := ⟨_, rfl⟩
  rw [hnm] at hr h1 hz
  subst hr
  have hpl : (put bs ⟨a, len, ⟨nm, n, kd⟩⟩).length = 256 := put_length hbs hf
  have hp := put_is bs a len n kd nm (by omega)
  have ht : (bs.take a).length = a := by rw [List.length_take]; omega
  dsimp only at hz
  refine ⟨⟨by rw [hpl, hbs], fun k _ hk => ?_⟩, ⟨by rw [hpl, hbs], fun k hk _ => ?_⟩⟩
  · have hk : k < a := by have : k < (a : Int).toNat := hk; omega
    rw [hp, List.append_assoc, List.getElem?_append_left (by omega), List.getElem?_take_of_lt hk]
  · have hk : a + 8 + nm.length ≤ k := by have : ((a : Int) + (len : Int)).toNat ≤ k := hk; omega
    have hl : (bs.take a ++ (head8 n len nm.length kd ++ nm)).length = a + 8 + nm.length := by
      rw [List.length_append, List.length_append, ht]; show a + (8 + nm.length) = _; omega
    rw [hp, List.getElem?_append_right (by omega), hl, List.getElem?_drop]
    congr 1
    omega
end Nm
end Go.Proofs.Ytmlgjmcenjbbeaa
