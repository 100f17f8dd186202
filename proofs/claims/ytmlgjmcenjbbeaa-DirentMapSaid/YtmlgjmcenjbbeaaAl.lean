/- The records behind an entry put in, taken out, turned. -/
import Derived.Test.YtmlgjmcenjbbeaaAs
import Derived.Test.YtmlgjmcenjbbeaaAk
namespace Go.Proofs.Ytmlgjmcenjbbeaa
open Go.RowKit
namespace Nm
theorem need4 (n : List UInt8) : need n % 4 = 0 := by unfold need; omega
theorem own4 (r : Rec) : own r % 4 = 0 := by
  have := need4 r.e.name
  unfold own
  split <;> omega
def addMid (r : Rec) (e : Ent) : List Rec :=
  if r.e.ino = 0 then [⟨r.at_, r.len, e⟩] else [⟨r.at_, own r, r.e⟩, ⟨r.at_ + own r, r.len - own r, e⟩]
theorem addMid_ents (r : Rec) (e : Ent) (h : e.ino ≠ 0) : entsOf (addMid r e) = entsOf [r] ++ [e] := by
  unfold addMid
  split
  · rename_i h0; rw [entsOf_not h0]; exact entsOf_ent (r := ⟨r.at_, r.len, e⟩) h
  · rename_i h0
    rw [entsOf_cons, entsOf_ent h0, entsOf_ent (r := ⟨r.at_, own r, r.e⟩) h0, entsOf_ent (r := ⟨r.at_ + own r, r.len - own r, e⟩) h]
theorem chk_ino {e : Ent} (h : chk e = 0) : e.ino ≠ 0 := by have := (chk_ok h).2.1; omega
theorem own_of {r : Rec} (h : r.e.ino ≠ 0) : own r = need r.e.name := if_neg h
theorem own_no {r : Rec} (h : r.e.ino = 0) : own r = 8 := if_pos h
theorem free_ent {r : Rec} (h : r.e.ino ≠ 0) : free r = r.len - own r := if_neg h
theorem free_no {r : Rec} (h : r.e.ino = 0) : free r = r.len := if_pos h
theorem recs_add {b : List UInt8} {l1 l2 : List Rec} {r : Rec} {e : Ent} (h : recs b = some (l1 ++ r :: l2)) (hc : chk e = 0) (hn : e.name ∉ names (l1 ++ r :: l2)) (hr : hasRoom e.name r = true) :
    recs (addRec b r e) = some (l1 ++ addMid r e ++ l2) := by
  have he := chk_ino hc
  have hs : l1 ++ r :: l2 = l1 ++ [r] ++ l2 := by simp
  have hnd : (names (l1 ++ addMid r e ++ l2)).Nodup := by
    have h2 := (recs_iff.1 h).2.2
    have hperm : (names (l1 ++ addMid r e ++ l2)).Perm (e.name :: names (l1 ++ r :: l2)) := by
      rw [hs]
      unfold names
      rw [entsOf_append, entsOf_append, entsOf_append, entsOf_append, addMid_ents r e he]
      rw [List.map_append, List.map_append, List.map_append, List.map_append, List.map_append]
      simp only [List.append_assoc, List.map_cons, List.map_nil, List.singleton_append]
      rw [← List.append_assoc, ← List.append_assoc]
      exact List.perm_middle
    exact hperm.nodup_iff.2 (List.nodup_cons.2 ⟨hn, h2⟩)
  rw [hs] at h
  obtain ⟨hb, hp, _⟩ := recs_iff.1 h
  obtain ⟨z, hp1, _⟩ := path_append.1 hp
  obtain ⟨a, hpa, hpr⟩ := path_append.1 hp1
  obtain ⟨h1, hz⟩ := hpr
  have hz : a + r.len.toNat = z := hz
  have hi := one_is h1
  have hat := hi.at_
  have hL := legal_of hb h1
  have hl8 := hL.len8
  have hl4 := hL.len4
  have hlf := hL.fits
  have hroom : (need e.name : Int) ≤ free r := of_decide_eq_true hr
  have hg := need_ge e.name
  by_cases h0 : r.e.ino = 0
  · rw [free_no h0] at hroom
    have hL' : Legal ⟨r.at_, r.len, e⟩ := ⟨hL.at0, hl8, hl4, hlf, by rw [own_of (r := ⟨r.at_, r.len, e⟩) he]; exact hroom, fun h => absurd h he, fun _ => hc⟩
    have hb' : addRec b r e = put b ⟨r.at_, r.len, e⟩ := if_pos h0
    have hm' : addMid r e = [⟨r.at_, r.len, e⟩] := if_pos h0
    rw [hb']
    rw [hm'] at hnd ⊢
    have ho := one_put hb hL'
    obtain ⟨g1, g2⟩ := put_agree hb hL'
    have q1 : (⟨r.at_, r.len, e⟩ : Rec).at_.toNat = a := by show r.at_.toNat = a; omega
    have q2 : ((⟨r.at_, r.len, e⟩ : Rec).at_ + (⟨r.at_, r.len, e⟩ : Rec).len).toNat = z := by show (r.at_ + r.len).toNat = z; omega
    rw [q1] at ho g1
    rw [q2] at g2
    exact recs_swap h hpa ⟨h1, hz⟩ g1 g2 ⟨ho, hz⟩ hnd
  · rw [free_ent h0] at hroom
    have ho8 := (own_ge r).1
    have ho4 := own4 r
    have hL1 : Legal ⟨r.at_, own r, r.e⟩ := ⟨hL.at0, ho8, ho4, by show r.at_ + own r ≤ 256; omega, by rw [own_of (r := ⟨r.at_, own r, r.e⟩) h0]; rw [own_of h0]; exact Int.le_refl _, fun h => absurd h h0, hL.some_⟩
    have hL2 : Legal ⟨r.at_ + own r, r.len - own r, e⟩ := ⟨by have := hL.at0; show 0 ≤ r.at_ + own r; omega, by show 8 ≤ r.len - own r; omega, by show (r.len - own r) % 4 = 0; omega, by show r.at_ + own r + (r.len - own r) ≤ 256; omega, by rw [own_of (r := ⟨r.at_ + own r, r.len - own r, e⟩) he]; exact hroom, fun h => absurd h he, fun _ => hc⟩
    have hb' : addRec b r e = put (put b ⟨r.at_, own r, r.e⟩) ⟨r.at_ + own r, r.len - own r, e⟩ := if_neg h0
    have hm' : addMid r e = [⟨r.at_, own r, r.e⟩, ⟨r.at_ + own r, r.len - own r, e⟩] := if_neg h0
    rw [hb']
    rw [hm'] at hnd ⊢
    have hb1 := put_length hb hL1.fit
    have o1 := one_put hb hL1
    have o2 := one_put hb1 hL2
    obtain ⟨g1, g2⟩ := put_agree hb hL1
    obtain ⟨g3, g4⟩ := put_agree hb1 hL2
    have hat0 := hL.at0
    have q1 : (⟨r.at_, own r, r.e⟩ : Rec).at_.toNat = a := by show r.at_.toNat = a; omega
    have q2 : ((⟨r.at_, own r, r.e⟩ : Rec).at_ + (⟨r.at_, own r, r.e⟩ : Rec).len).toNat = a + (own r).toNat := by show (r.at_ + own r).toNat = _; omega
    have q3 : (⟨r.at_ + own r, r.len - own r, e⟩ : Rec).at_.toNat = a + (own r).toNat := by show (r.at_ + own r).toNat = _; omega
    have q4 : ((⟨r.at_ + own r, r.len - own r, e⟩ : Rec).at_ + (⟨r.at_ + own r, r.len - own r, e⟩ : Rec).len).toNat = z := by show (r.at_ + own r + (r.len - own r)).toNat = _; omega
    rw [q1] at o1 g1
    rw [q2] at g2
    rw [q3] at o2 g3
    rw [q4] at g4
    refine recs_swap h hpa ⟨h1, hz⟩ (g1.trans (g3.part (Nat.le_refl _) (by omega))) ((g2.part (by omega) (Nat.le_refl _)).trans g4) ⟨one_agree o1 (g3.part (Nat.zero_le _) (Nat.le_refl _)), o2, ?_⟩ hnd
    show a + (own r).toNat + (r.len - own r).toNat = z
    omega
theorem recs_rem0 {b : List UInt8} {l2 : List Rec} {r : Rec} (h : recs b = some (r :: l2)) : recs (put b ⟨0, r.len, ⟨[], 0, 0⟩⟩) = some (⟨0, r.len, ⟨[], 0, 0⟩⟩ :: l2) := by
  have hnd : (names ([] ++ [⟨0, r.len, ⟨[], 0, 0⟩⟩] ++ l2)).Nodup := by
    have h2 := (recs_iff.1 h).2.2
    rw [show r :: l2 = [r] ++ l2 from rfl, names_append] at h2
    rw [List.nil_append, names_append]
    have : names [(⟨0, r.len, ⟨[], 0, 0⟩⟩ : Rec)] = [] := by unfold names; rw [entsOf_not rfl]; rfl
    rw [this, List.nil_append]
    exact (List.nodup_append.1 h2).2.1
  obtain ⟨hb, hp, _⟩ := recs_iff.1 h
  obtain ⟨h1, _⟩ := hp
  have hi := one_is h1
  have hat := hi.at_
  have hL := legal_of hb h1
  have hL' : Legal ⟨0, r.len, ⟨[], 0, 0⟩⟩ := ⟨Int.le_refl _, hL.len8, hL.len4, by have := hL.fits; have := hL.at0; show 0 + r.len ≤ 256; omega, by rw [own_no (r := ⟨0, r.len, ⟨[], 0, 0⟩⟩) rfl]; exact hL.len8, fun _ => ⟨rfl, rfl⟩, fun h => absurd rfl h⟩
  have ho := one_put hb hL'
  obtain ⟨g1, g2⟩ := put_agree hb hL'
  have q2 : ((⟨0, r.len, ⟨[], 0, 0⟩⟩ : Rec).at_ + (⟨0, r.len, ⟨[], 0, 0⟩⟩ : Rec).len).toNat = 0 + r.len.toNat := by show (0 + r.len).toNat = _; omega
  rw [q2] at g2
  exact recs_swap (l1 := []) (old := [r]) (mid := [⟨0, r.len, ⟨[], 0, 0⟩⟩]) h rfl ⟨h1, rfl⟩ g1 g2 ⟨ho, rfl⟩ hnd
theorem recs_rem1 {b : List UInt8} {l1 l2 : List Rec} {q r : Rec} (h : recs b = some (l1 ++ q :: r :: l2)) : recs (put b ⟨q.at_, q.len + r.len, q.e⟩) = some (l1 ++ ⟨q.at_, q.len + r.len, q.e⟩ :: l2) := by
  have hs : l1 ++ q :: r :: l2 = l1 ++ [q, r] ++ l2 := by simp
  have hs2 : l1 ++ ⟨q.at_, q.len + r.len, q.e⟩ :: l2 = l1 ++ [⟨q.at_, q.len + r.len, q.e⟩] ++ l2 := by simp
  have hqe : entsOf [(⟨q.at_, q.len + r.len, q.e⟩ : Rec)] = entsOf [q] := by
    by_cases h0 : q.e.ino = 0
    · rw [entsOf_not h0, entsOf_not (r := ⟨q.at_, q.len + r.len, q.e⟩) h0]
    · rw [entsOf_ent h0, entsOf_ent (r := ⟨q.at_, q.len + r.len, q.e⟩) h0]
  rw [hs] at h
  rw [hs2]
  have hnd : (names (l1 ++ [⟨q.at_, q.len + r.len, q.e⟩] ++ l2)).Nodup := by
    refine List.Sublist.nodup ?_ (recs_iff.1 h).2.2
    unfold names
    refine List.Sublist.map _ ?_
    rw [entsOf_append, entsOf_append, entsOf_append, entsOf_append, hqe, entsOf_cons q [r]]
    refine List.Sublist.append (List.Sublist.append (List.Sublist.refl _) (List.sublist_append_left _ _)) (List.Sublist.refl _)
  obtain ⟨hb, hp, _⟩ := recs_iff.1 h
  obtain ⟨z, hp1, _⟩ := path_append.1 hp
  obtain ⟨a, hpa, hpr⟩ := path_append.1 hp1
  have hpr' := hpr
  obtain ⟨h1, h2, hz⟩ := hpr
  have hz : a + q.len.toNat + r.len.toNat = z := hz
  have i1 := one_is h1
  have i2 := one_is h2
  have a1 := i1.at_
  have a2 := i2.at_
  have L1 := legal_of hb h1
  have L2 := legal_of hb h2
  have b1 := L1.len8
  have b2 := L2.len8
  have c1 := L1.len4
  have c2 := L2.len4
  have d2 := L2.fits
  have d1 := L1.own
  have hL' : Legal ⟨q.at_, q.len + r.len, q.e⟩ := ⟨L1.at0, by show 8 ≤ q.len + r.len; omega, by show (q.len + r.len) % 4 = 0; omega, by show q.at_ + (q.len + r.len) ≤ 256; omega, by show own q ≤ q.len + r.len; omega, L1.none_, L1.some_⟩
  have ho := one_put hb hL'
  obtain ⟨g1, g2⟩ := put_agree hb hL'
  have q1 : (⟨q.at_, q.len + r.len, q.e⟩ : Rec).at_.toNat = a := by show q.at_.toNat = a; omega
  have q2 : ((⟨q.at_, q.len + r.len, q.e⟩ : Rec).at_ + (⟨q.at_, q.len + r.len, q.e⟩ : Rec).len).toNat = z := by show (q.at_ + (q.len + r.len)).toNat = z; omega
  rw [q1] at ho g1
  rw [q2] at g2
  exact recs_swap h hpa hpr' g1 g2 ⟨ho, by show a + (q.len + r.len).toNat = z; omega⟩ hnd
theorem recs_turn {b : List UInt8} {l1 l2 : List Rec} {r : Rec} {e : Ent} (h : recs b = some (l1 ++ r :: l2)) (hc : chk e = 0) (h0 : r.e.ino ≠ 0) (hnm : r.e.name = e.name) :
    recs (put b ⟨r.at_, r.len, e⟩) = some (l1 ++ ⟨r.at_, r.len, e⟩ :: l2) := by
  have he := chk_ino hc
  have hs : l1 ++ r :: l2 = l1 ++ [r] ++ l2 := by simp
  have hs2 : l1 ++ ⟨r.at_, r.len, e⟩ :: l2 = l1 ++ [⟨r.at_, r.len, e⟩] ++ l2 := by simp
  rw [hs] at h
  rw [hs2]
  have hnd : (names (l1 ++ [⟨r.at_, r.len, e⟩] ++ l2)).Nodup := by
    have h2 := (recs_iff.1 h).2.2
    have : names (l1 ++ [⟨r.at_, r.len, e⟩] ++ l2) = names (l1 ++ [r] ++ l2) := by
      rw [names_append, names_append, names_append, names_append]
      unfold names
      rw [entsOf_ent h0, entsOf_ent (r := ⟨r.at_, r.len, e⟩) he]
      simp [hnm]
    rw [this]; exact h2
  obtain ⟨hb, hp, _⟩ := recs_iff.1 h
  obtain ⟨z, hp1, _⟩ := path_append.1 hp
  obtain ⟨a, hpa, hpr⟩ := path_append.1 hp1
  obtain ⟨h1, hz⟩ := hpr
  have hz : a + r.len.toNat = z := hz
  have hi := one_is h1
  have hat := hi.at_
  have hL := legal_of hb h1
  have hL' : Legal ⟨r.at_, r.len, e⟩ := ⟨hL.at0, hL.len8, hL.len4, hL.fits, by have := hL.own; rw [own_of h0, hnm] at this; rw [own_of (r := ⟨r.at_, r.len, e⟩) he]; exact this, fun h => absurd h he, fun _ => hc⟩
  have ho := one_put hb hL'
  obtain ⟨g1, g2⟩ := put_agree hb hL'
  have q1 : (⟨r.at_, r.len, e⟩ : Rec).at_.toNat = a := by show r.at_.toNat = a; omega
  have q2 : ((⟨r.at_, r.len, e⟩ : Rec).at_ + (⟨r.at_, r.len, e⟩ : Rec).len).toNat = z := by show (r.at_ + r.len).toNat = z; have := hL.len8; have := hL.at0; omega
  rw [q1] at ho g1
  rw [q2] at g2
  exact recs_swap h hpa ⟨h1, hz⟩ g1 g2 ⟨ho, hz⟩ hnd
/-- What Add did, if it did. -/
theorem add_did {b c : List UInt8} {e : Ent} (h : add b e = (some c, 0)) : ∃ l1 r l2, recs b = some (l1 ++ r :: l2) ∧ chk e = 0 ∧ e.name ∉ names (l1 ++ r :: l2) ∧ hasRoom e.name r = true ∧ (∀ x ∈ l1, hasRoom e.name x = false) ∧ recs c = some (l1 ++ addMid r e ++ l2) := by
  unfold add at h
  split at h
  · simp at h
  · rename_i hc
    have hc : chk e = 0 := by simpa using hc
    rcases hrb : recs b with _ | l
    · rw [hrb] at h; simp at h
    · rw [hrb] at h
      simp only at h
      split at h
      · simp at h
      · rename_i hn
        rcases hk : l[l.findIdx (hasRoom e.name)]? with _ | r
        · rw [hk] at h; simp at h
        · rw [hk] at h
          simp only [Prod.mk.injEq, Option.some.injEq, and_true] at h
          obtain ⟨hlt, hr⟩ := List.getElem?_eq_some_iff.1 hk
          have hroom : hasRoom e.name r = true := by rw [← hr]; exact List.findIdx_getElem
          have hl : l = l.take (l.findIdx (hasRoom e.name)) ++ r :: l.drop (l.findIdx (hasRoom e.name) + 1) := by
            rw [← hr, List.getElem_cons_drop, List.take_append_drop]
          have hnn : e.name ∉ names l := fun hm => hn ((any_named l e.name).2 hm)
          have hlo : ∀ x ∈ l.take (l.findIdx (hasRoom e.name)), hasRoom e.name x = false := by
            intro x hx
            obtain ⟨j, hj, rfl⟩ := List.mem_take_iff_getElem.1 hx
            have hj' : j < l.findIdx (hasRoom e.name) := by omega
            simpa using List.not_of_lt_findIdx hj'
          obtain ⟨l1, h1⟩ : ∃ l1, l.take (l.findIdx (hasRoom e.name)) = l1 := ⟨_, rfl⟩
          obtain ⟨l2, h2⟩ : ∃ l2, l.drop (l.findIdx (hasRoom e.name) + 1) = l2 := ⟨_, rfl⟩
          rw [h1, h2] at hl
          rw [h1] at hlo
          subst hl
          exact ⟨l1, r, l2, rfl, hc, hnn, hroom, hlo, by rw [← h]; exact recs_add hrb hc hnn hroom⟩
theorem add_or (b : List UInt8) (e : Ent) : (∃ c, add b e = (some c, 0)) ∨ ∃ x, add b e = (none, x) ∧ x ≠ 0 := by
  unfold add
  split
  · rename_i h; exact .inr ⟨_, rfl, h⟩
  · rcases recs b with _ | l
    · exact .inr ⟨160, rfl, by decide⟩
    · simp only
      split
      · exact .inr ⟨5, rfl, by decide⟩
      · rcases l[l.findIdx (hasRoom e.name)]? with _ | r
        · exact .inr ⟨6, rfl, by decide⟩
        · exact .inl ⟨_, rfl⟩
/-- Remove where the name's record stands. -/
theorem rem_split {b n : List UInt8} {l1 l2 : List Rec} {r : Rec} (h : recs b = some (l1 ++ r :: l2)) (hr : isNamed n r = true) (h1 : n ∉ names l1) : rem b n = (some (remRec b (l1 ++ r :: l2) l1.length), 0) := by
  have hlt : l1.length < (l1 ++ r :: l2).length := by simp
  refine rem_some h hlt ?_ ?_
  · simpa using hr
  · rw [List.take_left]
    cases hh : l1.any (isNamed n) with
    | false => rfl
    | true => exact absurd ((any_named l1 n).1 hh) h1
theorem rem_first {b n : List UInt8} {l2 : List Rec} {r : Rec} (h : recs b = some (r :: l2)) (hr : isNamed n r = true) : ∃ c, rem b n = (some c, 0) ∧ recs c = some (⟨0, r.len, ⟨[], 0, 0⟩⟩ :: l2) := by
  refine ⟨_, rem_split (l1 := []) h hr (by simp [names, entsOf]), ?_⟩
  show recs (remRec b (r :: l2) 0) = _
  rw [remRec_zero (by simp)]
  exact recs_rem0 h
theorem rem_later {b n : List UInt8} {l1 l2 : List Rec} {q r : Rec} (h : recs b = some (l1 ++ q :: r :: l2)) (hr : isNamed n r = true) (h1 : n ∉ names (l1 ++ [q])) : ∃ c, rem b n = (some c, 0) ∧ recs c = some (l1 ++ ⟨q.at_, q.len + r.len, q.e⟩ :: l2) := by
  have hs : l1 ++ q :: r :: l2 = (l1 ++ [q]) ++ r :: l2 := by simp
  have h' := h
  rw [hs] at h'
  refine ⟨_, rem_split h' hr h1, ?_⟩
  rw [← hs, List.length_append]
  show recs (remRec b _ (l1.length + 1)) = _
  rw [remRec_succ (by simp)]
  have e1 : (l1 ++ q :: r :: l2)[l1.length]'(by simp) = q := by simp
  have e2 : (l1 ++ q :: r :: l2)[l1.length + 1]'(by simp) = r := by rw [List.getElem_append_right (by omega)]; simp
  rw [e1, e2]
  exact recs_rem1 h
end Nm
end Go.Proofs.Ytmlgjmcenjbbeaa
