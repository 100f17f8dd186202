/- A map of entries, as the law's own map reads. -/
import Derived.Test.YtmlgjmcenjbbeaaAq
import Derived.Maps.Views
import Derived.Maps.OwnSet
namespace Go.Proofs.Ytmlgjmcenjbbeaa
open Go.RowKit
def entD (e : Ent) : DataW Unit := .agg [.lit (.string e.name), .lit (.int .i64 e.ino), .lit (.int .i64 e.kind)]
theorem entD_inj {a b : Ent} (h : entD a = entD b) : a = b := by
  obtain ⟨a1, a2, a3⟩ := a
  obtain ⟨b1, b2, b3⟩ := b
  unfold entD at h
  simp at h
  obtain ⟨rfl, rfl, rfl⟩ := h
  rfl
def entElem (v : Value) : Option (DataW Unit × List MemPlace) :=
  match v with
  | .agg ⟨[.string s, .int .i64 a, .int .i64 b]⟩ => some (entD ⟨s.data.toList, a, b⟩, [])
  | _ => none
theorem entElem_mk (e : Ent) : entElem (entV e) = some (entD e, []) := rfl
theorem entElem_inv {v : Value} {z : DataW Unit × List MemPlace} (h : entElem v = some z) : ∃ e, v = entV e ∧ z = (entD e, []) := by
  unfold entElem at h
  split at h
  · rename_i s a b
    cases h
    exact ⟨⟨s.data.toList, a, b⟩, by unfold entV; rw [show S s.data.toList = s from by unfold S; simp], rfl⟩
  · cases h
namespace Nm
theorem findIn_none {E : List Ent} {k : List UInt8} (h : k ∉ E.map (·.name)) : findIn E k = none := by
  unfold findIn
  refine List.find?_eq_none.2 fun x hx => ?_
  have : x.name ≠ k := fun e => h (List.mem_map.2 ⟨x, hx, e⟩)
  simpa using this
theorem findIn_isSome {E : List Ent} {k : List UInt8} : (findIn E k).isSome = true ↔ k ∈ E.map (·.name) := by
  unfold findIn
  rw [List.find?_isSome]
  simp [List.mem_map]
theorem findIn_mid {A B : List Ent} {e : Ent} (h : e.name ∉ A.map (·.name)) (k : List UInt8) : findIn (A ++ e :: B) k = if k = e.name then some e else findIn (A ++ B) k := by
  by_cases hk : k = e.name
  · subst hk
    rw [if_pos rfl]
    have := findIn_none h
    unfold findIn at this ⊢
    rw [List.find?_append, this]
    simp
  · rw [if_neg hk]
    unfold findIn
    rw [List.find?_append, List.find?_append, List.find?_cons]
    have : (e.name == k) = false := by simpa using fun x => hk x.symm
    rw [this]
/-- A map's datum says these entries. -/
structure Rep (D : DataW Unit) (E : List Ent) : Prop where
  tidy : Maps.Tidy D
  at_ : ∀ k, D.atKey (.string k) (entD zeroEnt) = entD ((findIn E k).getD zeroEnt)
  has : ∀ k, Maps.has D (.string k) = (findIn E k).isSome
  size : Maps.size D = E.length
theorem rep_nil : Rep (.map []) [] := ⟨Maps.tidy_empty, fun _ => rfl, fun _ => rfl, rfl⟩
theorem key_ne {k n : List UInt8} (h : k ≠ n) : Lit.string k ≠ Lit.string n := fun e => h (by cases e; rfl)
theorem rep_put {D : DataW Unit} {A B : List Ent} {e : Ent} (h : Rep D (A ++ B)) (hn : e.name ∉ (A ++ B).map (·.name)) : Rep (D.put (.string e.name) (entD e)) (A ++ e :: B) := by
  have hA : e.name ∉ A.map (·.name) := fun hm => hn (by rw [List.map_append]; exact List.mem_append_left _ hm)
  refine ⟨h.tidy.put (by trivial) _, fun k => ?_, fun k => ?_, ?_⟩
  · rw [findIn_mid hA]
    by_cases hk : k = e.name
    · subst hk; rw [if_pos rfl, Maps.atKey_put_same h.tidy.isMap (by trivial)]; rfl
    · rw [if_neg hk, Maps.atKey_put_other (key_ne hk), h.at_]
  · rw [findIn_mid hA]
    by_cases hk : k = e.name
    · subst hk; rw [if_pos rfl, Maps.has_put_same h.tidy.isMap (by trivial)]; rfl
    · rw [if_neg hk, Maps.has_put_other (key_ne hk), h.has]
  · rw [Maps.size_put h.tidy, h.has, findIn_none hn, h.size]
    simp
    omega
theorem rep_turn {D : DataW Unit} {A B : List Ent} {x e : Ent} (h : Rep D (A ++ x :: B)) (hx : x.name = e.name) (hA : e.name ∉ A.map (·.name)) : Rep (D.put (.string e.name) (entD e)) (A ++ e :: B) := by
  have hA' : x.name ∉ A.map (·.name) := by rw [hx]; exact hA
  have hat := h.at_
  have hhas := h.has
  refine ⟨h.tidy.put (by trivial) _, fun k => ?_, fun k => ?_, ?_⟩
  · rw [findIn_mid hA]
    by_cases hk : k = e.name
    · subst hk; rw [if_pos rfl, Maps.atKey_put_same h.tidy.isMap (by trivial)]; rfl
    · rw [if_neg hk, Maps.atKey_put_other (key_ne hk), hat, findIn_mid hA', if_neg (by rw [hx]; exact hk)]
  · rw [findIn_mid hA]
    by_cases hk : k = e.name
    · subst hk; rw [if_pos rfl, Maps.has_put_same h.tidy.isMap (by trivial)]; rfl
    · rw [if_neg hk, Maps.has_put_other (key_ne hk), hhas, findIn_mid hA', if_neg (by rw [hx]; exact hk)]
  · rw [Maps.size_put h.tidy, hhas, findIn_mid hA', if_pos hx.symm, h.size]
    simp
theorem rep_del {D : DataW Unit} {A B : List Ent} {x : Ent} (h : Rep D (A ++ x :: B)) (hA : x.name ∉ A.map (·.name)) (hB : x.name ∉ B.map (·.name)) : Rep (D.del (.string x.name)) (A ++ B) := by
  have hAB : x.name ∉ (A ++ B).map (·.name) := by rw [List.map_append]; intro hm; rcases List.mem_append.1 hm with h1 | h1; exact hA h1; exact hB h1
  refine ⟨h.tidy.del _, fun k => ?_, fun k => ?_, ?_⟩
  · by_cases hk : k = x.name
    · subst hk; rw [Maps.atKey_del_same, findIn_none hAB]; rfl
    · rw [Maps.atKey_del_other (key_ne hk), h.at_, findIn_mid hA, if_neg hk]
  · by_cases hk : k = x.name
    · subst hk; rw [Maps.has_del_same, findIn_none hAB]; rfl
    · rw [Maps.has_del_other (key_ne hk), h.has, findIn_mid hA, if_neg hk]
  · have := Maps.size_del h.tidy (k := .string x.name)
    rw [h.has, findIn_mid hA, if_pos rfl, h.size] at this
    simp at this ⊢
    omega
theorem rep_del_none {D : DataW Unit} {E : List Ent} {n : List UInt8} (h : Rep D E) (hn : n ∉ E.map (·.name)) : Rep (D.del (.string n)) E := by
  rw [Maps.del_of_not_has (by rw [h.has, findIn_none hn]; rfl)]
  exact h
theorem nodup_mid {A B : List Ent} {x : Ent} (h : ((A ++ x :: B).map (·.name)).Nodup) : x.name ∉ A.map (·.name) ∧ x.name ∉ B.map (·.name) ∧ ((A ++ B).map (·.name)).Nodup := by
  rw [List.map_append, List.map_cons, List.nodup_append] at h
  obtain ⟨h1, h2, h3⟩ := h
  rw [List.nodup_cons] at h2
  refine ⟨fun hm => h3 _ hm _ (List.mem_cons_self ..) rfl, h2.1, ?_⟩
  rw [List.map_append, List.nodup_append]
  exact ⟨h1, h2.2, fun a ha b hb => h3 a ha b (List.mem_cons_of_mem _ hb)⟩
theorem findIn_mem {E : List Ent} (h : (E.map (·.name)).Nodup) {e : Ent} (he : e ∈ E) : findIn E e.name = some e := by
  obtain ⟨A, B, rfl⟩ := List.append_of_mem he
  obtain ⟨h1, _, _⟩ := nodup_mid h
  rw [findIn_mid h1, if_pos rfl]
end Nm
/-- What a look-up in the map gives. -/
theorem lookup_ent {W : World} {B n : Nat} {D : DataW Unit} {E : List Ent} (h : W.ownsMap Try.prog 9 entElem B n D) (hr : Nm.Rep D E) (t : TypeId) (ht : Try.prog.underlying t = some (.map 9 24)) (hz : (zeroValue 24).run Try.prog W = .ok (entV zeroEnt) W) (k : List UInt8) (hk : k.length ≤ maxLen) :
    (Instr.lookup t (.map (some B)) (.string (S k)) false).run Try.prog W = .ok (entV ((Nm.findIn E k).getD zeroEnt)) W := by
  obtain ⟨v, ps, hrun, hv⟩ := h.lookup law9 ht hz (entElem_mk zeroEnt) (WideMaps.keyOf_string_mk Try.underlying9 (s := S k) (by simpa using hk))
  obtain ⟨e, rfl, he⟩ := entElem_inv hv
  rw [hrun]
  have hat := hr.at_ k
  have h2 : D.atKey (.string (S k).data.toList) (entD zeroEnt) = entD e := (Prod.mk.inj he).1
  have h3 : D.atKey (.string k) (entD zeroEnt) = entD e := h2
  rw [hat] at h3
  rw [entD_inj h3]
theorem lookup_ent_ok {W : World} {B n : Nat} {D : DataW Unit} {E : List Ent} (h : W.ownsMap Try.prog 9 entElem B n D) (hr : Nm.Rep D E) (t : TypeId) (ht : Try.prog.underlying t = some (.map 9 24)) (hz : (zeroValue 24).run Try.prog W = .ok (entV zeroEnt) W) (k : List UInt8) (hk : k.length ≤ maxLen) :
    (Instr.lookup t (.map (some B)) (.string (S k)) true).run Try.prog W = .ok (.tuple #[entV ((Nm.findIn E k).getD zeroEnt), .bool (Nm.findIn E k).isSome]) W := by
  obtain ⟨v, ps, hrun, hv⟩ := h.look_ok law9 ht hz (entElem_mk zeroEnt) (WideMaps.keyOf_string_mk Try.underlying9 (s := S k) (by simpa using hk))
  obtain ⟨e, rfl, he⟩ := entElem_inv hv
  rw [hrun]
  have hat := hr.at_ k
  have h2 : D.atKey (.string (S k).data.toList) (entD zeroEnt) = entD e := (Prod.mk.inj he).1
  have h3 : D.atKey (.string k) (entD zeroEnt) = entD e := h2
  rw [hat] at h3
  rw [entD_inj h3]
  have h4 : Maps.has D (.string (S k).data.toList) = (Nm.findIn E k).isSome := hr.has k
  rw [h4]
end Go.Proofs.Ytmlgjmcenjbbeaa
