/- What changes do to a block's entries: as a map's. -/
import Derived.Test.YtmlgjmcenjbbeaaAm
namespace Go.Proofs.Ytmlgjmcenjbbeaa
open Go.RowKit
namespace Nm
/-- All records but the first have an entry. -/
def FirstOnly (L : List Rec) : Prop := ∃ r0 rest, L = r0 :: rest ∧ ∀ r ∈ rest, r.e.ino ≠ 0
theorem firstOnly_empty : FirstOnly [emptyRec] := ⟨emptyRec, [], rfl, fun r hr => by simp at hr⟩
theorem addMid_mem {r x : Rec} {e : Ent} (h : x ∈ addMid r e) : x.e = e ∨ (r.e.ino ≠ 0 ∧ x.e = r.e) := by
  unfold addMid at h
  split at h
  · simp at h; subst h; exact .inl rfl
  · simp at h
    rcases h with rfl | rfl
    · exact .inr ⟨‹_›, rfl⟩
    · exact .inl rfl
theorem firstOnly_add {l1 l2 : List Rec} {r : Rec} {e : Ent} (h : FirstOnly (l1 ++ r :: l2)) (he : e.ino ≠ 0) : FirstOnly (l1 ++ addMid r e ++ l2) := by
  obtain ⟨r0, rest, h1, h2⟩ := h
  rcases l1 with _ | ⟨x, l1⟩
  · obtain ⟨rfl, rfl⟩ := List.cons.inj h1
    unfold addMid
    split
    · exact ⟨_, l2, rfl, h2⟩
    · refine ⟨_, _ :: l2, rfl, fun q hq => ?_⟩
      rcases List.mem_cons.1 hq with rfl | hq
      · exact he
      · exact h2 q hq
  · obtain ⟨rfl, rfl⟩ := List.cons.inj h1
    refine ⟨x, l1 ++ addMid r e ++ l2, rfl, fun q hq => ?_⟩
    rcases List.mem_append.1 hq with hq | hq
    · rcases List.mem_append.1 hq with hq | hq
      · exact h2 q (by simp [hq])
      · rcases addMid_mem hq with h3 | ⟨h3, h4⟩
        · rw [h3]; exact he
        · rw [h4]; exact h3
    · exact h2 q (by simp [hq])
theorem add_map {b c : List UInt8} {L : List Rec} {e : Ent} (h : recs b = some L) (hf : FirstOnly L) (ha : add b e = (some c, 0)) :
    ∃ L' A B, recs c = some L' ∧ FirstOnly L' ∧ entsOf L = A ++ B ∧ entsOf L' = A ++ e :: B ∧ e.name ∉ names L ∧ chk e = 0 := by
  obtain ⟨l1, r, l2, h1, hc, hn, hr, _, h2⟩ := add_did ha
  rw [h] at h1
  obtain rfl := Option.some.inj h1
  have he := chk_ino hc
  refine ⟨_, entsOf l1 ++ entsOf [r], entsOf l2, h2, firstOnly_add hf he, ?_, ?_, hn, hc⟩
  · rw [entsOf_append, entsOf_cons]; simp
  · rw [entsOf_append, entsOf_append, addMid_ents r e he]; simp
theorem roomOf_le {l : List Rec} {m : Int} : roomOf l ≤ m ↔ 0 ≤ m ∧ ∀ r ∈ l, min (free r - 8) 48 ≤ m := by
  have : ∀ (l : List Rec) (i : Int), l.foldl (fun m r => max m (min (free r - 8) 48)) i ≤ m ↔ i ≤ m ∧ ∀ r ∈ l, min (free r - 8) 48 ≤ m := by
    intro l
    induction l with
    | nil => intro i; simp
    | cons x l ih =>
      intro i
      rw [List.foldl_cons, ih]
      constructor
      · rintro ⟨h1, h2⟩
        refine ⟨by omega, fun r hr => ?_⟩
        rcases List.mem_cons.1 hr with rfl | hr
        · omega
        · exact h2 r hr
      · rintro ⟨h1, h2⟩
        have := h2 x (List.mem_cons_self ..)
        exact ⟨by omega, fun r hr => h2 r (List.mem_cons_of_mem _ hr)⟩
  exact this l 0
theorem room_mem {l : List Rec} {r : Rec} (h : r ∈ l) : min (free r - 8) 48 ≤ roomOf l := (roomOf_le.1 (Int.le_refl _)).2 r h
theorem named_split {L : List Rec} {n : List UInt8} (h : n ∈ names L) : ∃ l1 r l2, L = l1 ++ r :: l2 ∧ isNamed n r = true ∧ n ∉ names l1 := by
  induction L with
  | nil => simp [names, entsOf] at h
  | cons x L ih =>
    cases hx : isNamed n x with
    | true => exact ⟨[], x, L, rfl, hx, by simp [names, entsOf]⟩
    | false =>
      have h0 : n ∉ names [x] := fun hm => by
        have := (any_named [x] n).2 hm
        simp [hx] at this
      have h1 : n ∈ names L := by
        rw [show x :: L = [x] ++ L from rfl, names_append] at h
        rcases List.mem_append.1 h with h | h
        · exact absurd h h0
        · exact h
      obtain ⟨l1, r, l2, rfl, h2, h3⟩ := ih h1
      refine ⟨x :: l1, r, l2, rfl, h2, fun hm => ?_⟩
      rw [show x :: l1 = [x] ++ l1 from rfl, names_append] at hm
      rcases List.mem_append.1 hm with hm | hm
      · exact h0 hm
      · exact h3 hm
theorem rem_map {b n : List UInt8} {L : List Rec} (h : recs b = some L) (hf : FirstOnly L) (hn : n ∈ names L) :
    ∃ c L' A x B, rem b n = (some c, 0) ∧ recs c = some L' ∧ FirstOnly L' ∧ entsOf L = A ++ x :: B ∧ x.name = n ∧ n ∉ A.map (·.name) ∧ entsOf L' = A ++ B ∧ roomOf L ≤ roomOf L' := by
  have hb := (recs_iff.1 h).1
  have hp := (recs_iff.1 h).2.1
  obtain ⟨l1, r, l2, rfl, hr, h1⟩ := named_split hn
  obtain ⟨hi, hnm⟩ := isNamed_spec hr
  have hE : entsOf (l1 ++ r :: l2) = entsOf l1 ++ r.e :: entsOf l2 := by rw [entsOf_append, entsOf_cons, entsOf_ent hi]; rfl
  have hall := (recs_all h).1
  have hown : ∀ q ∈ l1 ++ r :: l2, 8 ≤ own q ∧ own q ≤ q.len := fun q hq => by
    obtain ⟨a, ha⟩ := hall q hq
    exact ⟨(own_ge q).1, (one_is ha).own⟩
  have hfree : ∀ q ∈ l1 ++ r :: l2, free q ≤ q.len := fun q hq => by
    obtain ⟨o1, o2⟩ := hown q hq
    unfold free
    split <;> omega
  obtain ⟨r0, rest, hL, hrest⟩ := hf
  rcases List.eq_nil_or_concat l1 with h0 | ⟨l0, q, h0⟩
  · subst h0
    obtain ⟨rfl, rfl⟩ := List.cons.inj hL
    obtain ⟨c, h2, h3⟩ := rem_first h hr
    refine ⟨c, _, entsOf [], r.e, entsOf l2, h2, h3, ⟨_, l2, rfl, hrest⟩, by rw [hE], hnm, h1, ?_, ?_⟩
    · rw [entsOf_cons, entsOf_not (r := ⟨0, r.len, ⟨[], 0, 0⟩⟩) rfl]; rfl
    · refine roomOf_le.2 ⟨(roomOf_bd _).1, fun x hx => ?_⟩
      rcases List.mem_cons.1 hx with rfl | hx
      · have := room_mem (l := ⟨0, x.len, ⟨[], 0, 0⟩⟩ :: l2) (List.mem_cons_self ..)
        rw [free_no (r := ⟨0, x.len, ⟨[], 0, 0⟩⟩) rfl] at this
        have h4 := hfree x (by simp)
        dsimp only at this
        omega
      · exact room_mem (List.mem_cons_of_mem _ hx)
  · rw [List.concat_eq_append] at h0
    subst h0
    have hs : l0 ++ [q] ++ r :: l2 = l0 ++ q :: r :: l2 := by simp
    rw [hs] at h hown hfree hL
    obtain ⟨c, h2, h3⟩ := rem_later h hr h1
    have hqe : entsOf [(⟨q.at_, q.len + r.len, q.e⟩ : Rec)] = entsOf [q] := by
      by_cases h0 : q.e.ino = 0
      · rw [entsOf_not h0, entsOf_not (r := ⟨q.at_, q.len + r.len, q.e⟩) h0]
      · rw [entsOf_ent h0, entsOf_ent (r := ⟨q.at_, q.len + r.len, q.e⟩) h0]
    refine ⟨c, _, entsOf (l0 ++ [q]), r.e, entsOf l2, h2, h3, ?_, hE, hnm, h1, ?_, ?_⟩
    · rcases l0 with _ | ⟨x, l0⟩
      · obtain ⟨rfl, rfl⟩ := List.cons.inj hL
        exact ⟨_, l2, rfl, fun y hy => hrest y (List.mem_cons_of_mem _ hy)⟩
      · obtain ⟨rfl, rfl⟩ := List.cons.inj hL
        refine ⟨x, l0 ++ ⟨q.at_, q.len + r.len, q.e⟩ :: l2, rfl, fun y hy => ?_⟩
        rcases List.mem_append.1 hy with hy | hy
        · exact hrest y (by simp [hy])
        · rcases List.mem_cons.1 hy with rfl | hy
          · exact hrest q (by simp)
          · exact hrest y (by simp [hy])
    · rw [entsOf_append, entsOf_cons, hqe, entsOf_append, List.append_assoc]
    · rw [hs]
      have hq' : min (free (⟨q.at_, q.len + r.len, q.e⟩ : Rec) - 8) 48 ≤ roomOf (l0 ++ ⟨q.at_, q.len + r.len, q.e⟩ :: l2) := room_mem (by simp)
      have hfq : free (⟨q.at_, q.len + r.len, q.e⟩ : Rec) = free q + r.len := by
        by_cases h0 : q.e.ino = 0
        · rw [free_no h0, free_no (r := ⟨q.at_, q.len + r.len, q.e⟩) h0]
        · rw [free_ent h0, free_ent (r := ⟨q.at_, q.len + r.len, q.e⟩) h0, own_of h0, own_of (r := ⟨q.at_, q.len + r.len, q.e⟩) h0]; dsimp only; omega
      have hfr := hfree r (by simp)
      have hr8 := hown r (by simp)
      have hfq0 : 0 ≤ free q := by
        have := hown q (by simp)
        unfold free
        split <;> omega
      refine roomOf_le.2 ⟨(roomOf_bd _).1, fun x hx => ?_⟩
      rcases List.mem_append.1 hx with hx | hx
      · exact room_mem (by simp [hx])
      · rcases List.mem_cons.1 hx with rfl | hx
        · omega
        · rcases List.mem_cons.1 hx with rfl | hx
          · omega
          · exact room_mem (by simp [hx])
theorem rem_map_none {b n : List UInt8} {L : List Rec} (h : recs b = some L) (hn : n ∉ names L) : rem b n = (none, 4) := by
  refine rem_none h ?_
  cases hh : L.any (isNamed n) with
  | false => rfl
  | true => exact absurd ((any_named L n).1 hh) hn
theorem turn_map {b : List UInt8} {L : List Rec} {e : Ent} (h : recs b = some L) (hf : FirstOnly L) (hc : chk e = 0) (hn : e.name ∈ names L) :
    ∃ c L' A x B, turn b e = (some c, 0) ∧ recs c = some L' ∧ FirstOnly L' ∧ entsOf L = A ++ x :: B ∧ x.name = e.name ∧ e.name ∉ A.map (·.name) ∧ entsOf L' = A ++ e :: B := by
  have he := chk_ino hc
  obtain ⟨l1, r, l2, rfl, hr, h1⟩ := named_split hn
  obtain ⟨hi, hnm⟩ := isNamed_spec hr
  have hE : entsOf (l1 ++ r :: l2) = entsOf l1 ++ r.e :: entsOf l2 := by rw [entsOf_append, entsOf_cons, entsOf_ent hi]; rfl
  have hlt : l1.length < (l1 ++ r :: l2).length := by simp
  have hno : l1.any (isNamed e.name) = false := by
    cases hh : l1.any (isNamed e.name) with
    | false => rfl
    | true => exact absurd ((any_named l1 _).1 hh) h1
  have hidx : (l1 ++ r :: l2).findIdx (isNamed e.name) = l1.length := by
    rw [List.findIdx_eq hlt]
    refine ⟨by simpa using hr, fun j hj => ?_⟩
    have hj' : (l1 ++ r :: l2)[j] = l1[j] := List.getElem_append_left hj
    rw [hj']
    simpa using List.any_eq_false.1 hno l1[j] (List.getElem_mem hj)
  have ht : turn b e = (some (put b ⟨r.at_, r.len, e⟩), 0) := by
    unfold turn
    rw [if_neg (by simpa using hc), h]
    simp only
    rw [hidx, List.getElem?_append_right (Nat.le_refl _), Nat.sub_self]
    rfl
  refine ⟨_, _, entsOf l1, r.e, entsOf l2, ht, recs_turn h hc hi hnm, ?_, hE, hnm, h1, ?_⟩
  · obtain ⟨r0, rest, hL, hrest⟩ := hf
    rcases l1 with _ | ⟨x, l1⟩
    · obtain ⟨rfl, rfl⟩ := List.cons.inj hL
      exact ⟨_, l2, rfl, hrest⟩
    · obtain ⟨rfl, rfl⟩ := List.cons.inj hL
      refine ⟨x, l1 ++ ⟨r.at_, r.len, e⟩ :: l2, rfl, fun y hy => ?_⟩
      rcases List.mem_append.1 hy with hy | hy
      · exact hrest y (by simp [hy])
      · rcases List.mem_cons.1 hy with rfl | hy
        · exact he
        · exact hrest y (by simp [hy])
  · rw [entsOf_append, entsOf_cons, entsOf_ent (r := ⟨r.at_, r.len, e⟩) he]; rfl
theorem turn_bad {b : List UInt8} {e : Ent} (hc : chk e ≠ 0) : turn b e = (none, chk e) := by unfold turn; rw [if_pos hc]
theorem turn_map_none {b : List UInt8} {L : List Rec} {e : Ent} (h : recs b = some L) (hc : chk e = 0) (hn : e.name ∉ names L) : turn b e = (none, 4) := by
  unfold turn
  rw [if_neg (by simpa using hc), h]
  simp only
  rw [List.getElem?_eq_none]
  have : L.findIdx (isNamed e.name) = L.length := List.findIdx_eq_length.2 (fun x hx => by
    cases hh : isNamed e.name x with
    | false => rfl
    | true => exact absurd ((any_named L _).1 (List.any_eq_true.2 ⟨x, hx, hh⟩)) hn)
  omega
theorem add_map_twice {b : List UInt8} {L : List Rec} {e : Ent} (h : recs b = some L) (hc : chk e = 0) (hn : e.name ∈ names L) : add b e = (none, 5) := add_twice hc h ((any_named L _).2 hn)
theorem add_map_none {b : List UInt8} {L : List Rec} {e : Ent} (h : recs b = some L) (hc : chk e = 0) (hn : e.name ∉ names L) : (∃ c, add b e = (some c, 0)) ∨ (add b e = (none, 6) ∧ roomOf L < e.name.length) := by
  have hno : L.any (isNamed e.name) = false := by
    cases hh : L.any (isNamed e.name) with
    | false => rfl
    | true => exact absurd ((any_named L _).1 hh) hn
  rcases add_or b e with h1 | ⟨x, hx, _⟩
  · exact .inl h1
  · right
    have hroom : L.any (hasRoom e.name) = false := by
      cases hh : L.any (hasRoom e.name) with
      | false => rfl
      | true =>
        exfalso
        have hk := List.findIdx_lt_length.2 (List.any_eq_true.1 hh)
        have := add_some (k := L.findIdx (hasRoom e.name)) hc h hno hk List.findIdx_getElem (by
          rw [List.any_eq_false]
          intro x hx
          obtain ⟨j, hj, rfl⟩ := List.mem_take_iff_getElem.1 hx
          have hj' : j < L.findIdx (hasRoom e.name) := by omega
          rw [List.not_of_lt_findIdx hj']; simp)
        rw [hx] at this
        simp at this
    have hfull := add_full hc h hno hroom
    refine ⟨hfull, ?_⟩
    have hlen : 1 ≤ e.name.length := by
      have := (name_ok (chk_ok hc).1).1
      exact List.length_pos_iff.2 this
    have hall := (recs_all h).1
    have hmain : roomOf L ≤ (e.name.length : Int) - 1 := by
      refine roomOf_le.2 ⟨by omega, fun r hr => ?_⟩
      have h1 : hasRoom e.name r = false := by simpa using List.any_eq_false.1 hroom r hr
      unfold hasRoom at h1
      have h1 : ¬ ((need e.name : Int) ≤ free r) := of_decide_eq_false h1
      obtain ⟨a, ha⟩ := hall r hr
      have h4 := (one_is ha).len4
      have h5 := own4 r
      have h6 : free r % 4 = 0 := by unfold free; split <;> omega
      have h7 : (need e.name : Int) = (e.name.length + 11) / 4 * 4 := by unfold need; omega
      omega
    omega
end Nm
end Go.Proofs.Ytmlgjmcenjbbeaa
