/- The answer that a line says, as plain data: words, bounds, memory. -/
import Derived.Test.YtpoongljokbgcaaDoorAb
import Derived.Test.YtpoongljokbgcaaDoorU
namespace Go.Proofs.YtpoongljokbgcaaDoor
open Go.RowKit
namespace Tr
def toEnt (w : List UInt8) : Ent := ⟨(unq (Lib.cut w [58]).1).getD [], 0, (pnum (Lib.cut w [58]).2.1).1⟩
def resZero : Res := ⟨0, [], 0, 0, 0, []⟩
def wError : List UInt8 := [101, 114, 114, 111, 114]
def wData : List UInt8 := [100, 97, 116, 97]
def wStat : List UInt8 := [115, 116, 97, 116]
def wList : List UInt8 := [108, 105, 115, 116]
def abuild (ws : List (List UInt8)) : Int × Res :=
  if ws.getD 0 [] = wError ∧ ws.length = 2 then (0, ⟨(pnum (ws.getD 1 [])).1, [], 0, 0, 0, []⟩)
  else if ws.getD 0 [] = wData ∧ ws.length = 2 then (9, ⟨0, (unhexesX (ws.getD 1 [])).getD [], 0, 0, 0, []⟩)
  else if ws.getD 0 [] = wStat ∧ ws.length = 4 then (10, ⟨0, [], (pnum (ws.getD 1 [])).1, (pnum (ws.getD 2 [])).1, (pnum (ws.getD 3 [])).1, []⟩)
  else if ws.getD 0 [] = wList then (11, ⟨0, [], 0, 0, 0, ws.tail.map toEnt⟩)
  else (0, resZero)
def parseAns (s : List UInt8) : Option Res :=
  if answer (abuild (spl 32 s)).1 (abuild (spl 32 s)).2 = s then some (abuild (spl 32 s)).2 else none
theorem cut_len (w c : List UInt8) : (Lib.cut w c).1.length ≤ w.length ∧ (Lib.cut w c).2.1.length ≤ w.length := by
  unfold Lib.cut; split
  · simp; omega
  · simp
theorem toEnt_name (w : List UInt8) : (toEnt w).name.length ≤ w.length := Nat.le_trans (unq_len _) (cut_len w [58]).1
theorem parse_pa {s : List UInt8} {ws : List (List UInt8)} {k : Int} {r : Res} (hws : spl 32 s = ws) (h : abuild ws = (k, r)) : (answer k r = s → parseAns s = some r) ∧ (answer k r ≠ s → parseAns s = none) := by
  unfold parseAns; rw [hws, h]
  exact ⟨fun h => if_pos h, fun h => if_neg h⟩
end Tr
theorem res_plain (e k l z : Int) (h : in64 e ∧ in64 k ∧ in64 l ∧ in64 z) (d : List UInt8) : Res.ok ⟨e, d, k, l, z, []⟩ := ⟨h.1, h.2.1, h.2.2.1, h.2.2.2, fun x hx => by simp at hx⟩
theorem fits_plain (e k l z : Int) (d : List UInt8) (hd : d.length ≤ 4000000) : Res.fits ⟨e, d, k, l, z, []⟩ :=
  ⟨by show 2 * d.length + 1 ≤ _; omega, fun x hx => by simp at hx, by simp, by show (Lib.join [[108, 105, 115, 116]] [32]).length ≤ _; decide⟩
theorem ents_fit (ws : List (List UInt8)) (hn : ws.length ≤ 4000001) (hm : ∀ x ∈ ws, x.length ≤ 4000000) : Res.ok ⟨0, [], 0, 0, 0, ws.map Tr.toEnt⟩ ∧ Res.fits ⟨0, [], 0, 0, 0, ws.map Tr.toEnt⟩ := by
  have hin : ∀ e ∈ ws.map Tr.toEnt, in64 e.kind ∧ e.name.length ≤ 4000000 := by
    intro e he
    obtain ⟨w, hw, rfl⟩ := List.mem_map.1 he
    exact ⟨pnum_in _, Nat.le_trans (Tr.toEnt_name w) (hm w hw)⟩
  refine ⟨⟨in64_zero, in64_zero, in64_zero, in64_zero, fun e he => (hin e he).1⟩, ⟨by simp, fun e he => by have := (hin e he).2; omega, by simp; omega, ?_⟩⟩
  refine Nat.le_trans (Tr.join_len _ 32 12000030 ?_) ?_
  · intro x hx
    rcases List.mem_cons.1 hx with rfl | h
    · simp
    · obtain ⟨e, he, rfl⟩ := List.mem_map.1 h
      have h1 := (hin e he).2
      have h2 := Tr.quo_len e.name
      have h3 := Lib.itoa_length_le e.kind (hin e he).1.1 (hin e he).1.2
      unfold Tr.ent
      rw [List.length_append, List.length_cons]
      omega
  · simp only [List.length_cons, List.length_map]
    refine Nat.le_trans (Nat.mul_le_mul_right _ (show ws.length + 1 ≤ 4000002 by omega)) (by decide)
/-- An entry's cells, the entries' cells. -/
def cellsE (l : List Ent) : List Value := l.flatMap fun e => [.string (S e.name), .int .i64 e.ino, .int .i64 e.kind]
theorem cellsE_at : ∀ (l : List Ent) (j : Nat) (e : Ent), l[j]? = some e → (cellsE l)[j * 3]? = some (.string (S e.name)) ∧ (cellsE l)[j * 3 + 1]? = some (.int .i64 e.ino) ∧ (cellsE l)[j * 3 + 2]? = some (.int .i64 e.kind)
  | [], j, e, h => by simp at h
  | x :: l, 0, e, h => by
    simp at h; subst h
    exact ⟨rfl, rfl, rfl⟩
  | x :: l, j + 1, e, h => by
    have ih := cellsE_at l j e (by simpa using h)
    have hc : ∀ i, (cellsE (x :: l))[i + 3]? = (cellsE l)[i]? := fun i => by
      show ([_, _, _] ++ cellsE l)[i + 3]? = _
      rw [List.getElem?_append_right (by simp)]; simp
    refine ⟨?_, ?_, ?_⟩
    · rw [show (j + 1) * 3 = j * 3 + 3 by omega, hc]; exact ih.1
    · rw [show (j + 1) * 3 + 1 = j * 3 + 1 + 3 by omega, hc]; exact ih.2.1
    · rw [show (j + 1) * 3 + 2 = j * 3 + 2 + 3 by omega, hc]; exact ih.2.2
theorem RdE.of_own {W : World} {B : Nat} {v : Value} {xs : List Ent} (h : W.ownsRow B 39 3 v xs.length (cellsE xs)) : RdE W v xs := by
  have h' := h
  obtain ⟨_, ⟨rfl, h0⟩ | ⟨g, cap, cur, rfl, hg, hh, hc, hm, hs, ht⟩⟩ := h
  · refine ⟨none, 0, by rw [h0], by omega, fun j x hj => ?_⟩
    have : xs = [] := List.eq_nil_of_length_eq_zero h0
    subst this; simp at hj
  · refine ⟨_, cap, rfl, hc, fun j x hj => ⟨g, 0, rfl, (h'.lt g rfl).2, ?_⟩⟩
    obtain ⟨a0, a1, a2⟩ := cellsE_at xs j x hj
    have hk : ∀ (i : Nat) (u : Value), (cellsE xs)[i]? = some u → W.cell? ⟨g, 0 + i, none⟩ = some u := fun i u hu => by
      have := h'.cells (g := g) rfl i u hu
      simpa [Addr.add] using (by
        by_cases h0 : i = 0
        · subst h0; simpa [Addr.add] using this
        · simpa [Addr.add, h0] using this)
    exact ⟨hk _ _ a0, by rw [Nat.add_assoc]; exact hk _ _ a1, by rw [Nat.add_assoc]; exact hk _ _ a2⟩
theorem res15 {W : World} {b : Nat} {v0 v1 v2 v3 v4 v5 : Value} (h : Box W b 33 #[v0, v1, v2, v3, v4, v5]) {tmps : Array Value} {n : Int} (h2 : tmps.getD 2 undef = .pointer (some ⟨b, 0, none⟩)) (h3 : tmps.getD 3 undef = .int .i64 n) :
    (results Tryd.f15 tmps).run Tryd.prog W = .ok (.tuple #[.agg #[v0, v1, v2, v3, v4, v5], .int .i64 n]) W := by
  have d0 := h.get 0 _ rfl
  have d1 := h.get 1 _ rfl
  have d2 := h.get 2 _ rfl
  have d3 := h.get 3 _ rfl
  have d4 := h.get 4 _ rfl
  have d5 := h.get 5 _ rfl
  simp at h2 h3
  simp [results, Tryd.results15, go_sem, h2, h3, d0, d1, d2, d3, d4, d5]
/-- A parsed answer. -/
def AnsRes (o : Option Res) (w : World) (e : Ending) (w' : World) : Prop :=
  ∃ dv lv, e = .returned (.tuple #[.agg #[.int .i64 (o.getD Tr.resZero).err, dv, .int .i64 (o.getD Tr.resZero).kind, .int .i64 (o.getD Tr.resZero).links, .int .i64 (o.getD Tr.resZero).size, lv], .int .i64 (if o.isSome then 0 else 270)]) ∧
    w'.ownsRow w.heap.size 5 1 dv (o.getD Tr.resZero).data.length (Lib.byteCells (o.getD Tr.resZero).data) ∧ w'.ownsRow w.heap.size 39 3 lv (o.getD Tr.resZero).list.length (cellsE (o.getD Tr.resZero).list) ∧ Below w.heap.size w w'
theorem infoEnt : (Tryd.prog.info? 39).map (fun i => (i.zero, i.size, i.bytes)) = some (some (.agg #[.string ⟨#[]⟩, .int .i64 0, .int .i64 0]), 3, 32) := by kernel_rfl
theorem cut_S (l : List UInt8) (w : World) (hG : Gl w) (hl : l.length < 4294967281) :
    Calls Tryd.prog 49 #[.string (S l), .string ⟨#[58]⟩] w fun e w' => e = .returned (.tuple #[.string (S (Lib.cut l [58]).1), .string (S (Lib.cut l [58]).2.1), .bool (Lib.cut l [58]).2.2]) ∧ ∃ n, w' = w.drewN n := by
  obtain ⟨_, m, hm⟩ := hG
  exact Tryd.strings_Cut (S l) (S [58]) m w (by simpa using hl) hm
end Go.Proofs.YtpoongljokbgcaaDoor
