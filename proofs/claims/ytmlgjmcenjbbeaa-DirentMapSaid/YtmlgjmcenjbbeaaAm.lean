/- A block that was made of entries: its entries are these; what is put in is found, and taken out again leaves the others. -/
import Derived.Test.YtmlgjmcenjbbeaaAl
namespace Go.Proofs.Ytmlgjmcenjbbeaa
open Go.RowKit
namespace Nm
def makeFrom : List UInt8 → List Ent → Option (List UInt8) × Int
  | b, [] => (some b, 0)
  | b, e :: l => match (add b e).1 with
    | some c => makeFrom c l
    | none => (none, (add b e).2)
/-- A block of entries, or an error. -/
def make (l : List Ent) : Option (List UInt8) × Int := makeFrom empty l
theorem makeFrom_some {b c : List UInt8} {e : Ent} {l : List Ent} (h : add b e = (some c, 0)) : makeFrom b (e :: l) = makeFrom c l := by
  show (match (add b e).1 with | some c => makeFrom c l | none => (none, (add b e).2)) = _
  rw [h]
theorem makeFrom_none {b : List UInt8} {e : Ent} {x : Int} {l : List Ent} (h : add b e = (none, x)) : makeFrom b (e :: l) = (none, x) := by
  show (match (add b e).1 with | some c => makeFrom c l | none => (none, (add b e).2)) = _
  rw [h]
/-- All records but the last have no room; only a lone one has no entry. -/
def Packed (l : List Rec) : Prop := ∃ init last, l = init ++ [last] ∧ (∀ r ∈ init, r.e.ino ≠ 0 ∧ free r = 0) ∧ (last.e.ino = 0 → init = [])
theorem noRoom {r : Rec} {n : List UInt8} (h : free r = 0) : hasRoom n r = false := by
  have := need_ge n
  unfold hasRoom
  rw [h]
  exact decide_eq_false (by omega)
theorem packed_add {b c : List UInt8} {L : List Rec} {e : Ent} (h : recs b = some L) (hp : Packed L) (ha : add b e = (some c, 0)) :
    ∃ L', recs c = some L' ∧ Packed L' ∧ entsOf L' = entsOf L ++ [e] ∧ e.name ∉ names L ∧ chk e = 0 ∧ ∃ d K, rem c e.name = (some d, 0) ∧ recs d = some K ∧ entsOf K = entsOf L := by
  obtain ⟨l1, r, l2, h1, hc, hn, hr, _, h2⟩ := add_did ha
  obtain ⟨init, last, rfl, hi, hl⟩ := hp
  rw [h] at h1
  have h1 : init ++ [last] = l1 ++ r :: l2 := Option.some.inj h1
  have hl2 : l2 = [] := by
    rcases List.eq_nil_or_concat l2 with h0 | ⟨l3, x, h0⟩
    · exact h0
    · exfalso
      rw [h0, List.concat_eq_append, show l1 ++ r :: (l3 ++ [x]) = (l1 ++ r :: l3) ++ [x] by simp] at h1
      have := (List.append_inj' h1 rfl).1
      have := noRoom (n := e.name) (hi r (by rw [this]; simp)).2
      rw [this] at hr; cases hr
  subst hl2
  obtain ⟨e1, e2⟩ := List.append_inj' h1 rfl
  subst e1
  obtain rfl : last = r := by simpa using e2
  have he := chk_ino hc
  have hnamed : ∀ a z, isNamed e.name ⟨a, z, e⟩ = true := fun a z => by unfold isNamed; simp [he]
  rw [List.append_nil] at h2
  refine ⟨_, h2, ?_, ?_, hn, hc, ?_⟩
  · unfold addMid
    split
    · rename_i h0
      obtain rfl := hl h0
      exact ⟨[], _, rfl, (fun r hr => by simp at hr), fun h => rfl⟩
    · rename_i h0
      refine ⟨init ++ [⟨last.at_, own last, last.e⟩], ⟨last.at_ + own last, last.len - own last, e⟩, by simp, fun r hr => ?_, fun h => absurd h he⟩
      rcases List.mem_append.1 hr with hr | hr
      · exact hi r hr
      · obtain rfl := List.mem_singleton.1 hr
        refine ⟨h0, ?_⟩
        rw [free_ent (r := ⟨last.at_, own last, last.e⟩) h0, own_of (r := ⟨last.at_, own last, last.e⟩) h0]
        show own last - (need last.e.name : Int) = 0
        rw [own_of h0]; exact Int.sub_self _
  · rw [entsOf_append, addMid_ents last e he, entsOf_append]; simp
  · by_cases h0 : last.e.ino = 0
    · obtain rfl := hl h0
      have hm : addMid last e = [⟨last.at_, last.len, e⟩] := if_pos h0
      rw [hm, List.nil_append] at h2
      obtain ⟨d, h3, h4⟩ := rem_first h2 (hnamed _ _)
      refine ⟨d, _, h3, h4, ?_⟩
      rw [List.nil_append, entsOf_not h0]; rfl
    · have hm : addMid last e = [⟨last.at_, own last, last.e⟩, ⟨last.at_ + own last, last.len - own last, e⟩] := if_neg h0
      rw [hm] at h2
      have hq : entsOf [(⟨last.at_, own last, last.e⟩ : Rec)] = entsOf [last] := by rw [entsOf_ent h0, entsOf_ent (r := ⟨last.at_, own last, last.e⟩) h0]
      obtain ⟨d, h3, h4⟩ := rem_later h2 (hnamed _ _) (by
        intro hm; apply hn
        unfold names at hm ⊢
        rw [entsOf_append, hq] at hm
        rw [show init ++ last :: [] = init ++ [last] from rfl, entsOf_append]; exact hm)
      refine ⟨d, _, h3, h4, ?_⟩
      rw [entsOf_append, entsOf_append, entsOf_ent h0]
      congr 1
      exact entsOf_ent (r := ⟨last.at_, own last + (last.len - own last), last.e⟩) h0
theorem packed_make : ∀ (l : List Ent) (b c : List UInt8) (L : List Rec), recs b = some L → Packed L → makeFrom b l = (some c, 0) → ∃ L', recs c = some L' ∧ Packed L' ∧ entsOf L' = entsOf L ++ l
  | [], b, c, L, h, hp, hm => by
    have hm : (some b, (0 : Int)) = (some c, 0) := hm
    obtain rfl : b = c := by simpa using hm
    exact ⟨L, h, hp, by simp⟩
  | e :: l, b, c, L, h, hp, hm => by
    rcases add_or b e with ⟨d, hd⟩ | ⟨x, hx, _⟩
    · rw [makeFrom_some hd] at hm
      obtain ⟨L1, h1, h2, h3, _⟩ := packed_add h hp hd
      obtain ⟨L2, h4, h5, h6⟩ := packed_make l d c L1 h1 h2 hm
      exact ⟨L2, h4, h5, by rw [h6, h3]; simp⟩
    · rw [makeFrom_none hx] at hm; simp at hm
theorem recs_empty : recs empty = some [emptyRec] := by
  have hL : Legal emptyRec := ⟨by decide, by decide, by decide, by decide, by decide, fun _ => ⟨rfl, rfl⟩, fun h => absurd rfl h⟩
  exact recs_iff.2 ⟨empty_len, ⟨one_put zeros_len hL, rfl⟩, by unfold names; rw [entsOf_not rfl]; simp⟩
theorem packed_empty : Packed [emptyRec] := ⟨[], emptyRec, rfl, (fun r hr => by simp at hr), fun _ => rfl⟩
theorem entsOf_empty : entsOf [emptyRec] = [] := entsOf_not rfl
theorem ents_of {b : List UInt8} {L : List Rec} (h : recs b = some L) : ents b = entsOf L := by unfold ents; rw [h]; rfl
/-- The entries of a block that was made are these. -/
theorem make_ents {l : List Ent} {b : List UInt8} (h : make l = (some b, 0)) : ∃ L, recs b = some L ∧ Packed L ∧ ents b = l := by
  obtain ⟨L, h1, h2, h3⟩ := packed_make l empty b [emptyRec] recs_empty packed_empty h
  refine ⟨L, h1, h2, ?_⟩
  rw [ents_of h1, h3, entsOf_empty, List.nil_append]
theorem find_snoc {l : List Ent} {e : Ent} (h : e.name ∉ l.map (·.name)) : findIn (l ++ [e]) e.name = some e := by
  unfold findIn
  rw [List.find?_append, List.find?_eq_none.2 (fun x hx => by
    have : x.name ≠ e.name := fun h' => h (List.mem_map.2 ⟨x, hx, h'⟩)
    simpa using this)]
  simp
theorem make_back {l : List Ent} {b c : List UInt8} {e : Ent} (h : make l = (some b, 0)) (ha : add b e = (some c, 0)) :
    stateOf c = 0 ∧ findIn (ents c) e.name = some e ∧ ∃ d, rem c e.name = (some d, 0) ∧ stateOf d = 0 ∧ ents d = l := by
  obtain ⟨L, h1, h2, h3⟩ := make_ents h
  obtain ⟨L', h4, h5, h6, h7, h8, d, K, h9, h10, h11⟩ := packed_add h1 h2 ha
  rw [ents_of h1] at h3
  refine ⟨by unfold stateOf; rw [h4]; rfl, ?_, d, h9, by unfold stateOf; rw [h10]; rfl, ?_⟩
  · rw [ents_of h4, h6]
    exact find_snoc h7
  · rw [ents_of h10, h11, h3]
end Nm
end Go.Proofs.Ytmlgjmcenjbbeaa
