import Derived.Test.YtpoongljokbgcaaDoorScd
import Derived.Test.YtpoongljokbgcaaDoorSce
import Derived.Test.YtpoongljokbgcaaDoorSca
import Derived.ChangeMaps5
import Derived.Deep.Slices
import Derived.Deep.Fields
import Derived.ChangeSame
/- The answer that a line says, as plain data: words, bounds, memory. -/
namespace Go.Proofs.YtpoongljokbgcaaDoor
open Go.RowKit
namespace Tr
def toEnt (w : List UInt8) : Ent := ⟨(unq (Lib.cut w [58]).1).getD [], 0, (pnum (Lib.cut w [58]).2.1).1⟩
def resZero : Res := ⟨0, [], 0, 0, 0, []⟩
def wError : List UInt8 := [101, 114, 114, 111, 114]
def wData : List UInt8 := [100, 97, 116, 97]
def wStat : List UInt8 := [115, 116, 97, 116]
def wList : List UInt8 := [108, 105, 115, 116]
def abuild (ws : List (List UInt8)) : Int × Res :=
  if ws.getD 0 [] = wError ∧ ws.length = 2 then (0, ⟨(pnum (ws.getD 1 [])).1, [], 0, 0, 0, []⟩)
  else if ws.getD 0 [] = wData ∧ ws.length = 2 then (9, ⟨0, (unhexesX (ws.getD 1 [])).getD [], 0, 0, 0, []⟩)
  else if ws.getD 0 [] = wStat ∧ ws.length = 4 then (10, ⟨0, [], (pnum (ws.getD 1 [])).1, (pnum (ws.getD 2 [])).1, (pnum (ws.getD 3 [])).1, []⟩)
  else if ws.getD 0 [] = wList then (11, ⟨0, [], 0, 0, 0, ws.tail.map toEnt⟩)
  else (0, resZero)
def parseAns (s : List UInt8) : Option Res :=
  if answer (abuild (spl 32 s)).1 (abuild (spl 32 s)).2 = s then some (abuild (spl 32 s)).2 else none
theorem cut_len (w c : List UInt8) : (Lib.cut w c).1.length ≤ w.length ∧ (Lib.cut w c).2.1.length ≤ w.length := by
  unfold Lib.cut; split
  · simp; omega
  · simp
theorem toEnt_name (w : List UInt8) : (toEnt w).name.length ≤ w.length := Nat.le_trans (unq_len _) (cut_len w [58]).1
theorem parse_pa {s : List UInt8} {ws : List (List UInt8)} {k : Int} {r : Res} (hws : spl 32 s = ws) (h : abuild ws = (k, r)) : (answer k r = s → parseAns s = some r) ∧ (answer k r ≠ s → parseAns s = none) := by
  unfold parseAns; rw [hws, h]
  exact ⟨fun h => if_pos h, fun h => if_neg h⟩
end Tr
theorem res_plain (e k l z : Int) (h : in64 e ∧ in64 k ∧ in64 l ∧ in64 z) (d : List UInt8) : Res.ok ⟨e, d, k, l, z, []⟩ := ⟨h.1, h.2.1, h.2.2.1, h.2.2.2, fun x hx => by simp at hx⟩
theorem fits_plain (e k l z : Int) (d : List UInt8) (hd : d.length ≤ 4000000) : Res.fits ⟨e, d, k, l, z, []⟩ :=
  ⟨by show 2 * d.length + 1 ≤ _; omega, fun x hx => by simp at hx, by simp, by show (Lib.join [[108, 105, 115, 116]] [32]).length ≤ _; decide⟩
theorem ents_fit (ws : List (List UInt8)) (hn : ws.length ≤ 4000001) (hm : ∀ x ∈ ws, x.length ≤ 4000000) : Res.ok ⟨0, [], 0, 0, 0, ws.map Tr.toEnt⟩ ∧ Res.fits ⟨0, [], 0, 0, 0, ws.map Tr.toEnt⟩ := by
  have hin : ∀ e ∈ ws.map Tr.toEnt, in64 e.kind ∧ e.name.length ≤ 4000000 := by
    intro e he
    obtain ⟨w, hw, rfl⟩ := List.mem_map.1 he
    exact ⟨pnum_in _, Nat.le_trans (Tr.toEnt_name w) (hm w hw)⟩
  refine ⟨⟨in64_zero, in64_zero, in64_zero, in64_zero, fun e he => (hin e he).1⟩, ⟨by simp, fun e he => by have := (hin e he).2; omega, by simp; omega, ?_⟩⟩
  refine Nat.le_trans (Tr.join_len _ 32 12000030 ?_) ?_
  · intro x hx
    rcases List.mem_cons.1 hx with rfl | h
    · simp
    · obtain ⟨e, he, rfl⟩ := List.mem_map.1 h
      have h1 := (hin e he).2
      have h2 := Tr.quo_len e.name
      have h3 := Lib.itoa_length_le e.kind (hin e he).1.1 (hin e he).1.2
      unfold Tr.ent
      rw [List.length_append, List.length_cons]
      omega
  · simp only [List.length_cons, List.length_map]
    refine Nat.le_trans (Nat.mul_le_mul_right _ (show ws.length + 1 ≤ 4000002 by omega)) (by decide)
/-- An entry's cells, the entries' cells. -/
def cellsE (l : List Ent) : List Value := l.flatMap fun e => [.string (S e.name), .int .i64 e.ino, .int .i64 e.kind]
theorem cellsE_at : ∀ (l : List Ent) (j : Nat) (e : Ent), l[j]? = some e → (cellsE l)[j * 3]? = some (.string (S e.name)) ∧ (cellsE l)[j * 3 + 1]? = some (.int .i64 e.ino) ∧ (cellsE l)[j * 3 + 2]? = some (.int .i64 e.kind)
  | [], j, e, h => by simp at h
  | x :: l, 0, e, h => by
    simp at h; subst h
    exact ⟨rfl, rfl, rfl⟩
  | x :: l, j + 1, e, h => by
    have ih := cellsE_at l j e (by simpa using h)
    have hc : ∀ i, (cellsE (x :: l))[i + 3]? = (cellsE l)[i]? := fun i => by
      show ([_, _, _] ++ cellsE l)[i + 3]? = _
      rw [List.getElem?_append_right (by simp)]; simp
    refine ⟨?_, ?_, ?_⟩
    · rw [show (j + 1) * 3 = j * 3 + 3 by omega, hc]; exact ih.1
    · rw [show (j + 1) * 3 + 1 = j * 3 + 1 + 3 by omega, hc]; exact ih.2.1
    · rw [show (j + 1) * 3 + 2 = j * 3 + 2 + 3 by omega, hc]; exact ih.2.2
theorem RdE.of_own {W : World} {B : Nat} {v : Value} {xs : List Ent} (h : W.ownsRow B 39 3 v xs.length (cellsE xs)) : RdE W v xs := by
  have h' := h
  obtain ⟨_, ⟨rfl, h0⟩ | ⟨g, cap, cur, rfl, hg, hh, hc, hm, hs, ht⟩⟩ := h
  · refine ⟨none, 0, by rw [h0], by omega, fun j x hj => ?_⟩
    have : xs = [] := List.eq_nil_of_length_eq_zero h0
    subst this; simp at hj
  · refine ⟨_, cap, rfl, hc, fun j x hj => ⟨g, 0, rfl, (h'.lt g rfl).2, ?_⟩⟩
    obtain ⟨a0, a1, a2⟩ := cellsE_at xs j x hj
    have hk : ∀ (i : Nat) (u : Value), (cellsE xs)[i]? = some u → W.cell? ⟨g, 0 + i, none⟩ = some u := fun i u hu => by
      have := h'.cells (g := g) rfl i u hu
      simpa [Addr.add] using (by
        by_cases h0 : i = 0
        · subst h0; simpa [Addr.add] using this
        · simpa [Addr.add, h0] using this)
    exact ⟨hk _ _ a0, by rw [Nat.add_assoc]; exact hk _ _ a1, by rw [Nat.add_assoc]; exact hk _ _ a2⟩
theorem res15 {W : World} {b : Nat} {v0 v1 v2 v3 v4 v5 : Value} (h : Box W b 33 #[v0, v1, v2, v3, v4, v5]) {tmps : Array Value} {n : Int} (h2 : tmps.getD 2 undef = .pointer (some ⟨b, 0, none⟩)) (h3 : tmps.getD 3 undef = .int .i64 n) :
    (results Tryd.f15 tmps).run Tryd.prog W = .ok (.tuple #[.agg #[v0, v1, v2, v3, v4, v5], .int .i64 n]) W := by
  have d0 := h.get 0 _ rfl
  have d1 := h.get 1 _ rfl
  have d2 := h.get 2 _ rfl
  have d3 := h.get 3 _ rfl
  have d4 := h.get 4 _ rfl
  have d5 := h.get 5 _ rfl
  simp at h2 h3
  simp [results, Tryd.results15, go_sem, h2, h3, d0, d1, d2, d3, d4, d5]
/-- A parsed answer. -/
def AnsRes (o : Option Res) (w : World) (e : Ending) (w' : World) : Prop :=
  ∃ dv lv, e = .returned (.tuple #[.agg #[.int .i64 (o.getD Tr.resZero).err, dv, .int .i64 (o.getD Tr.resZero).kind, .int .i64 (o.getD Tr.resZero).links, .int .i64 (o.getD Tr.resZero).size, lv], .int .i64 (if o.isSome then 0 else 270)]) ∧
    w'.ownsRow w.heap.size 5 1 dv (o.getD Tr.resZero).data.length (Lib.byteCells (o.getD Tr.resZero).data) ∧ w'.ownsRow w.heap.size 39 3 lv (o.getD Tr.resZero).list.length (cellsE (o.getD Tr.resZero).list) ∧ Below w.heap.size w w'
theorem infoEnt : (Tryd.prog.info? 39).map (fun i => (i.zero, i.size, i.bytes)) = some (some (.agg #[.string ⟨#[]⟩, .int .i64 0, .int .i64 0]), 3, 32) := by kernel_rfl
theorem cut_S (l : List UInt8) (w : World) (hG : Gl w) (hl : l.length < 4294967281) :
    Calls Tryd.prog 49 #[.string (S l), .string ⟨#[58]⟩] w fun e w' => e = .returned (.tuple #[.string (S (Lib.cut l [58]).1), .string (S (Lib.cut l [58]).2.1), .bool (Lib.cut l [58]).2.2]) ∧ ∃ n, w' = w.drewN n := by
  obtain ⟨_, m, hm⟩ := hG
  exact Tryd.strings_Cut (S l) (S [58]) m w (by simpa using hl) hm
end Go.Proofs.YtpoongljokbgcaaDoor
/- Arguments as plain data: a slice of bytes, a slice of entries, an answer. -/
namespace Go.Proofs.YtpoongljokbgcaaDoor
open Go.ChangeShapes Go.WideShapes Go.ChangeAt Go.RowKit
theorem cell_lt {W : World} {b o : Nat} {v : Value} (h : W.cell? ⟨b, o, none⟩ = some v) : b < W.heap.size := by
  rcases Nat.lt_or_ge b W.heap.size with h' | h'
  · exact h'
  · have : W.heap[b]? = none := by simp [h']
    simp [World.cell?, this] at h
theorem in64_of {n : Int} (h : (Lit.int .i64 n).wf = true) : in64 n := bounds_i64 h
section
variable {H : Type} {enc : TypeId × Value → H} {W : World} {base : Nat} {sp : Nat → Bool} {held : Bool}
theorem open_bytes {fuel : Nat} {c : Value} {x : DataW H × List MemPlace} (hsp : ∀ b, sp b = true) (h : DataW.trod enc Tryd.prog W base sp held fuel 28 [c] = some x) :
    ∃ (l : List UInt8) (a : Option Addr) (cap : Nat), c = .slice a l.length cap ∧ RdB W (.slice a l.length cap) l := by
  rcases open_ints Tryd.underlying28 Tryd.underlying5 (by kernel_rfl) h with ⟨hcs, hx⟩ | ⟨a, len, cap, zs, hcs, _, hl, hmx, hz, hx, hcell, hwz⟩
  · simp at hcs; subst hcs
    exact ⟨[], none, 0, rfl, Rd.nil _ _⟩
  · simp at hcs; subst hcs
    rw [hsp a.block, if_pos rfl] at hz
    obtain ⟨l, hl'⟩ : ∃ l : List UInt8, l = (zs.take len).map fun z => UInt8.ofNat z.toNat := ⟨_, rfl⟩
    have hll : l.length = len := by rw [hl']; simp; omega
    refine ⟨l, some a, cap, by rw [hll], some a, cap, rfl, by omega, fun j y hj => ?_⟩
    have hjl : j < l.length := (List.getElem?_eq_some_iff.1 hj).1
    have hjz : j < zs.length := by omega
    have hc := hcell j hjz
    have hs := World.cell?_spot (hcell 0 (by omega))
    obtain ⟨b, o, spot⟩ := a
    have : spot = none := by simpa [Addr.add] using hs
    subst this
    have he : (⟨b, o, none⟩ : Addr).add j = ⟨b, o + j, none⟩ := by unfold Addr.add; split <;> simp_all
    rw [he] at hc
    refine ⟨b, o, rfl, cell_lt hc, ?_⟩
    rw [hc]
    have hw := bounds_u8 (hwz (zs[j]) (List.getElem_mem hjz))
    rw [hl', List.getElem?_map, List.getElem?_take_of_lt (by omega), List.getElem?_eq_getElem hjz] at hj
    simp only [Option.map_some, Option.some.injEq] at hj
    subst hj
    rw [List.getD_eq_getElem?_getD, List.getElem?_eq_getElem hjz]
    unfold byteV
    simp only [Option.getD_some, Option.some.injEq, Value.int.injEq, true_and, UInt8.toNat_ofNat']
    have : zs[j].toNat < 256 := by omega
    omega
set_option maxRecDepth 100000 in
theorem open_ents {fuel : Nat} {c : Value} {x : DataW H × List MemPlace} (h : DataW.trod enc Tryd.prog W base sp held fuel 31 [c] = some x) :
    ∃ (xs : List Ent) (a : Option Addr) (cap : Nat), c = .slice a xs.length cap ∧ RdE W (.slice a xs.length cap) xs ∧ (∀ e ∈ xs, in64 e.kind) ∧ (xs.map fun e => e.name.length + 4).sum ≤ Rows.uptoBulk x.1 := by
  have h3 : Tryd.prog.cellsOf 39 = 3 := by kernel_rfl
  have k9 : Tryd.prog.cellsOf 9 = 1 := by kernel_rfl
  have k3 : Tryd.prog.cellsOf 3 = 1 := by kernel_rfl
  rcases Go.Deep.open_slice Tryd.underlying31 h with ⟨hcs, hx⟩ | ⟨a, len, cap, m, n, D, Pl, hcs, _, hl, hmx, hm, hx, hi⟩
  · simp at hcs; subst hcs
    exact ⟨[], none, 0, rfl, RdE.nil _, fun e he => by simp at he, by simp⟩
  · simp at hcs; subst hcs
    have hlm : len ≤ m := by rw [hm]; split <;> omega
    have hE : ∀ i, i < m → ∃ e : Ent, in64 e.kind ∧ W.cell? (a.add (i * 3)) = some (.string (S e.name)) ∧ W.cell? (a.add (i * 3 + 1)) = some (.int .i64 e.ino) ∧ W.cell? (a.add (i * 3 + 2)) = some (.int .i64 e.kind) ∧ Rows.uptoBulk (D i) = e.name.length + 4 := by
      intro i him
      obtain ⟨cs, hcs, htr⟩ := hi i him
      rw [h3] at hcs
      obtain ⟨_, hcl, hat⟩ := World.cells?_some hcs
      obtain ⟨ys, n', _, hy, _, hyl, hf⟩ := DataW.trod_struct Tryd.underlying39 htr
      match cs, hcl, ys, hyl with
      | [u0, u1, u2], _, [z0, z1, z2], _ =>
      have q0 : DataW.trod enc Tryd.prog W base sp held n' 9 (([u0, u1, u2].drop 0).take (Tryd.prog.cellsOf 9)) = some z0 := hf 0 _ rfl
      have q1 : DataW.trod enc Tryd.prog W base sp held n' 3 (([u0, u1, u2].drop 1).take (Tryd.prog.cellsOf 3)) = some z1 := hf 1 _ rfl
      have q2 : DataW.trod enc Tryd.prog W base sp held n' 3 (([u0, u1, u2].drop 2).take (Tryd.prog.cellsOf 3)) = some z2 := hf 2 _ rfl
      rw [k9] at q0
      rw [k3] at q1 q2
      have c0 := hat 0 (by simp)
      have c1 := hat 1 (by simp)
      have c2 := hat 2 (by simp)
      rw [Go.Deep.add_add] at c0 c1 c2
      obtain ⟨s, e0, r0, _⟩ := DataW.trod_string Tryd.underlying9 q0
      obtain ⟨n1, e1, r1, _⟩ := DataW.trod_int Tryd.underlying3 q1
      obtain ⟨n2, e2, r2, w2⟩ := DataW.trod_int Tryd.underlying3 q2
      obtain rfl : u0 = .string s := by simpa using e0
      obtain rfl : u1 = .int .i64 n1 := by simpa using e1
      obtain rfl : u2 = .int .i64 n2 := by simpa using e2
      refine ⟨⟨s.data.toList, n1, n2⟩, in64_of w2, by have : S s.data.toList = s := by unfold S; simp
                                                      rw [this]; exact c0, c1, c2, ?_⟩
      simp only [Prod.mk.injEq] at hy
      rw [hy.1, r0, r1, r2]
      simp [Rows.uptoBulk, Rows.uptoBulkAll]
    have hch : ∃ f : Nat → Ent, ∀ i, i < m → in64 (f i).kind ∧ W.cell? (a.add (i * 3)) = some (.string (S (f i).name)) ∧ W.cell? (a.add (i * 3 + 1)) = some (.int .i64 (f i).ino) ∧ W.cell? (a.add (i * 3 + 2)) = some (.int .i64 (f i).kind) ∧ Rows.uptoBulk (D i) = (f i).name.length + 4 :=
      ⟨fun i => if h : i < m then (hE i h).choose else ⟨[], 0, 0⟩, fun i him => by
        simp only [him, dite_true]; exact (hE i him).choose_spec⟩
    obtain ⟨f, hf⟩ := hch
    have hxl : ((List.range len).map f).length = len := by simp
    refine ⟨(List.range len).map f, some a, cap, by rw [hxl], ⟨some a, cap, rfl, by omega, fun j y hj => ?_⟩, ?_, ?_⟩
    · have hjl : j < len := by have := (List.getElem?_eq_some_iff.1 hj).1; simpa using this
      obtain rfl : f j = y := by simpa [hjl] using hj
      obtain ⟨_, d0, d1, d2, _⟩ := hf j (by omega)
      have hs := World.cell?_spot (hf 0 (by omega)).2.1
      obtain ⟨b, o, spot⟩ := a
      have : spot = none := by simpa [Addr.add] using hs
      subst this
      have he : ∀ k, (⟨b, o, none⟩ : Addr).add k = ⟨b, o + k, none⟩ := fun k => by unfold Addr.add; split <;> simp_all
      rw [he] at d0 d1 d2
      exact ⟨b, o, rfl, cell_lt d0, d0, by rw [Nat.add_assoc]; exact d1, by rw [Nat.add_assoc]; exact d2⟩
    · intro e he
      obtain ⟨i, hi', rfl⟩ := List.mem_map.1 he
      exact (hf i (by have := List.mem_range.1 hi'; omega)).1
    · rw [hx]
      have hsum : ∀ l : List Nat, (∀ i ∈ l, i < m) → ((l.map f).map fun e => e.name.length + 4).sum = Rows.uptoBulkAll (l.map D) := by
        intro l
        induction l with
        | nil => intro _; rfl
        | cons i l ih =>
          intro hl
          simp only [List.map_cons, List.sum_cons, Rows.uptoBulkAll]
          rw [ih (fun j hj => hl j (by simp [hj])), (hf i (hl i (by simp))).2.2.2.2]
      rw [hsum _ (fun i hi' => by have := List.mem_range.1 hi'; omega)]
      simp only [Rows.uptoBulk]
      omega
end
end Go.Proofs.YtpoongljokbgcaaDoor
/- Plain laws: a number, bytes, words, an entry: there and back. -/
namespace Go.Proofs.YtpoongljokbgcaaDoor.Tr
open Go.RowKit
/-! ### which signs a word has -/
theorem dg_range : ∀ n, n < 16 → (48 ≤ (dg n).toNat ∧ (dg n).toNat ≤ 57) ∨ (97 ≤ (dg n).toNat ∧ (dg n).toNat ≤ 102) := by decide
theorem hexB_mem (c d : UInt8) (h : d ∈ hexB c) : (48 ≤ d.toNat ∧ d.toNat ≤ 57) ∨ (97 ≤ d.toNat ∧ d.toNat ≤ 102) := by
  have hc : c.toNat < 256 := c.toNat_lt
  unfold hexB at h
  simp only [List.mem_cons, List.not_mem_nil, or_false] at h
  rcases h with rfl | rfl
  · exact dg_range _ (by omega)
  · exact dg_range _ (by omega)
theorem bare_range (c : UInt8) (h : bare c = true) : 33 ≤ c.toNat ∧ c.toNat ≤ 126 ∧ c ≠ 58 := by
  unfold bare at h
  simp only [Bool.not_eq_true', Bool.or_eq_false_iff, decide_eq_false_iff_not, beq_eq_false_iff_ne] at h
  exact ⟨by omega, by omega, h.2⟩
theorem quo_mem (l : List UInt8) (d : UInt8) (h : d ∈ quo l) : 33 ≤ d.toNat ∧ d ≠ 58 := by
  unfold quo at h
  split at h
  · simp only [List.mem_cons, List.not_mem_nil, or_false] at h
    subst h; decide
  · obtain ⟨c, _, hc⟩ := List.mem_flatMap.1 h
    unfold quo1 at hc
    split at hc
    · rename_i hb
      simp only [List.mem_cons, List.not_mem_nil, or_false] at hc
      subst hc
      exact ⟨(bare_range _ hb).1, (bare_range _ hb).2.2⟩
    · rcases List.mem_cons.1 hc with rfl | hc
      · decide
      · have := hexB_mem c d hc
        refine ⟨by omega, fun e => ?_⟩
        subst e
        rcases this with ⟨_, h2⟩ | ⟨h1, _⟩
        · exact absurd h2 (by decide)
        · exact absurd h1 (by decide)
theorem dec_mem (u : Nat) (d : UInt8) (h : d ∈ Lib.decDigits u) : isDig d = true := by
  induction u using Nat.strongRecOn with
  | _ u ih =>
    rw [Lib.decDigits] at h
    have hd : ∀ k, k < 10 → isDig (UInt8.ofNat (48 + k)) = true := by decide
    split at h
    · rename_i hu
      simp only [List.mem_cons, List.not_mem_nil, or_false] at h
      subst h; exact hd u hu
    · rename_i hu
      rcases List.mem_append.1 h with h | h
      · exact ih _ (by omega) h
      · simp only [List.mem_cons, List.not_mem_nil, or_false] at h
        subst h; exact hd _ (by omega)
theorem dig_range (d : UInt8) (h : isDig d = true) : 48 ≤ d.toNat ∧ d.toNat ≤ 57 := by
  unfold isDig at h
  simpa using h
theorem itoa_mem (n : Int) (d : UInt8) (h : d ∈ Lib.itoa n) : 45 ≤ d.toNat ∧ d.toNat ≤ 57 := by
  unfold Lib.itoa at h
  split at h
  · rcases List.mem_cons.1 h with rfl | h
    · decide
    · have := dig_range d (dec_mem _ d h); omega
  · have := dig_range d (dec_mem _ d h); omega
theorem hexes_mem (l : List UInt8) (d : UInt8) (h : d ∈ hexes l) : 48 ≤ d.toNat := by
  unfold hexes at h
  rcases List.mem_cons.1 h with rfl | h
  · decide
  · obtain ⟨c, _, hc⟩ := List.mem_flatMap.1 h
    have := hexB_mem c d hc; omega
/-! ### there and back -/
theorem unhexes_flat (l : List UInt8) : unhexes (l.flatMap hexB) = some l := by
  induction l with
  | nil => rfl
  | cons c l ih =>
    rw [List.flatMap_cons]
    show (match unh (dg (c.toNat / 16)) (dg (c.toNat % 16)) with | some d => (unhexes (l.flatMap hexB)).map (d :: ·) | none => none) = _
    rw [unh_hexB, ih]; rfl
theorem unhexes_hexes (l : List UInt8) : unhexesX (hexes l) = some l := unhexes_flat l
theorem uval_snoc (l : List UInt8) (c : UInt8) : uval (l ++ [c]) = 10 * uval l + (c.toNat - 48) := by unfold uval; rw [List.foldl_append]; rfl
theorem uval_dec (u : Nat) : uval (Lib.decDigits u) = u := by
  induction u using Nat.strongRecOn with
  | _ u ih =>
    have hd : ∀ k, k < 10 → (UInt8.ofNat (48 + k)).toNat - 48 = k := by decide
    rw [Lib.decDigits]
    split
    · rename_i hu
      show 10 * 0 + ((UInt8.ofNat (48 + u)).toNat - 48) = u
      rw [hd u hu]; omega
    · rename_i hu
      rw [uval_snoc, ih _ (by omega), hd _ (by omega)]; omega
theorem dec_len (k u : Nat) (hk : 1 ≤ k) (hu : u < 10 ^ k) : (Lib.decDigits u).length ≤ k := by
  induction k generalizing u with
  | zero => omega
  | succ k ih =>
    rw [Lib.decDigits]
    split
    · simp
    · rename_i h10
      have hk1 : 1 ≤ k := by
        rcases Nat.eq_zero_or_pos k with h | h
        · subst h; simp at hu; omega
        · exact h
      have := ih (u / 10) hk1 (by rw [Nat.pow_succ] at hu; omega)
      simp; omega
theorem dec_ne (u : Nat) : ∃ c r, Lib.decDigits u = c :: r ∧ isDig c = true := by
  cases h : Lib.decDigits u with
  | nil =>
    rw [Lib.decDigits] at h
    split at h <;> simp at h
  | cons c r => exact ⟨c, r, rfl, dec_mem u c (by rw [h]; simp)⟩
theorem pnum_itoa (n : Int) (h : in64 n) : pnum (Lib.itoa n) = (n, true) := by
  obtain ⟨h0, h1⟩ := h
  have h19 : ∀ u : Nat, u ≤ 9223372036854775808 → (Lib.decDigits u).length ≤ 19 := fun u hu => dec_len 19 u (by decide) (Nat.lt_of_le_of_lt hu (by decide))
  have hall : ∀ u : Nat, (Lib.decDigits u).all isDig = true := fun u => List.all_eq_true.2 fun d hd => dec_mem u d hd
  by_cases hn : n < 0
  · obtain ⟨u, rfl⟩ : ∃ u : Nat, n = -(u : Int) := ⟨n.natAbs, by omega⟩
    have hi : Lib.itoa (-(u : Int)) = 45 :: Lib.decDigits u := Lib.itoa_neg u (by omega)
    have ht : Lib.trimPrefix (45 :: Lib.decDigits u) [45] = Lib.decDigits u := by simp [Lib.trimPrefix, Lib.hasPrefix]
    have hp : Lib.hasPrefix (45 :: Lib.decDigits u) [45] = true := by simp [Lib.hasPrefix]
    have hw : wrap64 (-(wrap64 (u : Int))) = -(u : Int) := by unfold wrap64; omega
    have hm : pnum (45 :: Lib.decDigits u) = (-(u : Int), Lib.itoa (-(u : Int)) == 45 :: Lib.decDigits u) := by
      unfold pnum
      have h19' := h19 u (by omega)
      rw [ht, hp]
      simp only [hall, uval_dec, h19', decide_true, Bool.and_self, if_true, hw]
    rw [hi, hm, hi]; simp
  · obtain ⟨u, rfl⟩ : ∃ u : Nat, n = (u : Int) := ⟨n.toNat, by omega⟩
    have hi : Lib.itoa (u : Int) = Lib.decDigits u := Lib.itoa_nonneg u
    obtain ⟨c, r, hc, hd⟩ := dec_ne u
    have hc45 : c ≠ 45 := fun e => by subst e; revert hd; decide
    have ht : Lib.trimPrefix (Lib.decDigits u) [45] = Lib.decDigits u := by rw [hc]; exact trim_no 45 c r hc45
    have hp : Lib.hasPrefix (Lib.decDigits u) [45] = false := by rw [hc]; exact has_no 45 c r hc45
    have hw : wrap64 (u : Int) = (u : Int) := by unfold wrap64; omega
    have hm : pnum (Lib.decDigits u) = ((u : Int), Lib.itoa (u : Int) == Lib.decDigits u) := by
      unfold pnum
      have h19' := h19 u (by omega)
      rw [ht, hp]
      simp only [hall, uval_dec, h19', decide_true, Bool.and_self, if_true, hw, Bool.false_eq_true, if_false]
    rw [hi, hm, hi]; simp
/-! ### split and cut -/
theorem spl_one (c : UInt8) (a : List UInt8) (h : c ∉ a) : spl c a = [a] := by
  induction a with
  | nil => rfl
  | cons b a ih =>
    simp only [List.mem_cons, not_or] at h
    rw [spl, if_neg (fun e => h.1 e.symm), ih h.2]
theorem spl_cons (c : UInt8) (a b : List UInt8) (h : c ∉ a) : spl c (a ++ c :: b) = a :: spl c b := by
  induction a with
  | nil => rw [List.nil_append, spl, if_pos rfl]
  | cons d a ih =>
    simp only [List.mem_cons, not_or] at h
    rw [List.cons_append, spl, if_neg (fun e => h.1 e.symm), ih h.2]
theorem joinTail_cons (y : List UInt8) (r : List (List UInt8)) (c : UInt8) : Lib.joinTail [c] (y :: r) = c :: (y ++ Lib.joinTail [c] r) := by
  unfold Lib.joinTail; simp
theorem spl_join (c : UInt8) (x : List UInt8) (xs : List (List UInt8)) (hx : c ∉ x) (h : ∀ y ∈ xs, c ∉ y) : spl c (Lib.join (x :: xs) [c]) = x :: xs := by
  induction xs generalizing x with
  | nil => rw [Lib.join_cons]; show spl c (x ++ []) = _; rw [List.append_nil]; exact spl_one c x hx
  | cons y r ih =>
    rw [Lib.join_cons, joinTail_cons, spl_cons c x _ hx]
    have := ih y (h y (by simp)) (fun z hz => h z (by simp [hz]))
    rw [Lib.join_cons] at this
    rw [this]
theorem index_at (c : UInt8) (a b : List UInt8) (h : c ∉ a) : Lib.index (a ++ c :: b) [c] = a.length := by
  induction a with
  | nil => rw [List.nil_append, Lib.index]; simp [List.isPrefixOf]
  | cons d a ih =>
    simp only [List.mem_cons, not_or] at h
    rw [List.cons_append, Lib.index]
    have := ih h.2
    simp [List.isPrefixOf, h.1, this]
theorem cut_at (c : UInt8) (a b : List UInt8) (h : c ∉ a) : Lib.cut (a ++ c :: b) [c] = (a, b, true) := by
  unfold Lib.cut
  rw [index_at c a b h, if_pos (by omega)]
  simp
theorem toEnt_ent (e : Ent) (hk : in64 e.kind) : toEnt (ent e) = ⟨e.name, 0, e.kind⟩ := by
  unfold toEnt ent
  rw [cut_at 58 _ _ (fun h => (quo_mem _ _ h).2 rfl), unq_quo, pnum_itoa _ hk]
  rfl
theorem ent_mem (e : Ent) (d : UInt8) (h : d ∈ ent e) : 33 ≤ d.toNat := by
  unfold ent at h
  rcases List.mem_append.1 h with h | h
  · exact (quo_mem _ _ h).1
  · rcases List.mem_cons.1 h with rfl | h
    · decide
    · have := itoa_mem _ _ h; omega
end Go.Proofs.YtpoongljokbgcaaDoor.Tr
/- What an answer's line says is what the answer tells: the plain law. -/
namespace Go.Proofs.YtpoongljokbgcaaDoor.Tr
open Go.RowKit
def want (k : Int) (r : Res) : Res :=
  if r.err ≠ 0 then ⟨r.err, [], 0, 0, 0, []⟩
  else if k = 9 then ⟨0, r.data, 0, 0, 0, []⟩
  else if k = 10 then ⟨0, [], r.kind, r.links, r.size, []⟩
  else if k = 11 then ⟨0, [], 0, 0, 0, r.list.map fun e => ⟨e.name, 0, e.kind⟩⟩
  else resZero
theorem no32 (l : List UInt8) (h : ∀ d ∈ l, 33 ≤ d.toNat) : (32 : UInt8) ∉ l := fun e => absurd (h _ e) (by decide)
theorem itoa32 (n : Int) : (32 : UInt8) ∉ Lib.itoa n := no32 _ fun d h => by have := itoa_mem n d h; omega
theorem parse_of {s : List UInt8} {ws : List (List UInt8)} {k : Int} {r : Res} (hws : spl 32 s = ws) (h : abuild ws = (k, r)) (ha : answer k r = s) : parseAns s = some r := (parse_pa hws h).1 ha
theorem back_error (k : Int) (r : Res) (hr : r.ok) (h : r.err ≠ 0) : parseAns (answer k r) = some (want k r) := by
  have ha : answer k r = wError ++ 32 :: Lib.itoa r.err := by unfold answer; rw [if_pos h]; rfl
  have hw : want k r = ⟨r.err, [], 0, 0, 0, []⟩ := by unfold want; rw [if_pos h]
  rw [ha, hw]
  refine parse_of (ws := [wError, Lib.itoa r.err]) (k := 0) ?_ ?_ ?_
  · rw [spl_cons 32 _ _ (by decide), spl_one 32 _ (itoa32 _)]
  · unfold abuild
    rw [if_pos ⟨rfl, rfl⟩]
    show ((0 : Int), (⟨(pnum (Lib.itoa r.err)).1, [], 0, 0, 0, []⟩ : Res)) = _
    rw [pnum_itoa _ hr.1]
  · unfold answer; rw [if_pos h]; rfl
theorem back_data (r : Res) (h : r.err = 0) : parseAns (answer 9 r) = some (want 9 r) := by
  have h' : ¬ r.err ≠ 0 := fun e => e h
  have ha : answer 9 r = wData ++ 32 :: hexes r.data := by unfold answer; rw [if_neg h', if_pos rfl]; rfl
  have hw : want 9 r = ⟨0, r.data, 0, 0, 0, []⟩ := by unfold want; rw [if_neg h', if_pos rfl]
  rw [ha, hw]
  refine parse_of (ws := [wData, hexes r.data]) (k := 9) ?_ ?_ ?_
  · rw [spl_cons 32 _ _ (by decide), spl_one 32 _ (no32 _ fun d h => by have := hexes_mem _ d h; omega)]
  · unfold abuild
    rw [if_neg (fun e => absurd e.1 (by show ¬ wData = wError; decide)), if_pos ⟨rfl, rfl⟩]
    show ((9 : Int), (⟨0, (unhexesX (hexes r.data)).getD [], 0, 0, 0, []⟩ : Res)) = _
    rw [unhexes_hexes]; rfl
  · unfold answer; rw [if_neg (fun e => e rfl), if_pos rfl]; rfl
theorem back_stat (r : Res) (hr : r.ok) (h : r.err = 0) : parseAns (answer 10 r) = some (want 10 r) := by
  have h' : ¬ r.err ≠ 0 := fun e => e h
  have hs : ∀ a b c : List UInt8, [115, 116, 97, 116, 32] ++ a ++ [32] ++ b ++ [32] ++ c = wStat ++ 32 :: (a ++ 32 :: (b ++ 32 :: c)) := fun a b c => by
    unfold wStat; simp
  have ha : answer 10 r = wStat ++ 32 :: (Lib.itoa r.kind ++ 32 :: (Lib.itoa r.links ++ 32 :: Lib.itoa r.size)) := by
    unfold answer; rw [if_neg h', if_neg (by decide), if_pos rfl, hs]
  have hw : want 10 r = ⟨0, [], r.kind, r.links, r.size, []⟩ := by unfold want; rw [if_neg h', if_neg (by decide), if_pos rfl]
  rw [ha, hw]
  refine parse_of (ws := [wStat, Lib.itoa r.kind, Lib.itoa r.links, Lib.itoa r.size]) (k := 10) ?_ ?_ ?_
  · rw [spl_cons 32 _ _ (by decide), spl_cons 32 _ _ (itoa32 _), spl_cons 32 _ _ (itoa32 _), spl_one 32 _ (itoa32 _)]
  · unfold abuild
    rw [if_neg (fun e => absurd e.1 (by show ¬ wStat = wError; decide)), if_neg (fun e => absurd e.1 (by show ¬ wStat = wData; decide)), if_pos ⟨rfl, rfl⟩]
    show ((10 : Int), (⟨0, [], (pnum (Lib.itoa r.kind)).1, (pnum (Lib.itoa r.links)).1, (pnum (Lib.itoa r.size)).1, []⟩ : Res)) = _
    rw [pnum_itoa _ hr.2.1, pnum_itoa _ hr.2.2.1, pnum_itoa _ hr.2.2.2.1]
  · unfold answer; rw [if_neg (fun e => e rfl), if_neg (by decide), if_pos rfl, hs]
theorem back_list (r : Res) (hr : r.ok) (h : r.err = 0) : parseAns (answer 11 r) = some (want 11 r) := by
  have h' : ¬ r.err ≠ 0 := fun e => e h
  have ha : answer 11 r = Lib.join (wList :: r.list.map ent) [32] := by unfold answer; rw [if_neg h', if_neg (by decide), if_neg (by decide), if_pos rfl]; rfl
  have hw : want 11 r = ⟨0, [], 0, 0, 0, r.list.map fun e => ⟨e.name, 0, e.kind⟩⟩ := by unfold want; rw [if_neg h', if_neg (by decide), if_neg (by decide), if_pos rfl]
  have hee : (r.list.map fun e => (⟨e.name, 0, e.kind⟩ : Ent)).map ent = r.list.map ent := by rw [List.map_map]; rfl
  have hte : (r.list.map ent).map toEnt = r.list.map fun e => (⟨e.name, 0, e.kind⟩ : Ent) := by
    rw [List.map_map]
    exact List.map_congr_left fun e he => toEnt_ent e (hr.2.2.2.2 e he)
  rw [ha, hw]
  refine parse_of (ws := wList :: r.list.map ent) (k := 11) ?_ ?_ ?_
  · refine spl_join 32 wList _ (by decide) fun y hy => ?_
    obtain ⟨e, _, rfl⟩ := List.mem_map.1 hy
    exact no32 _ (ent_mem e)
  · unfold abuild
    rw [if_neg (fun e => absurd e.1 (by show ¬ wList = wError; decide)), if_neg (fun e => absurd e.1 (by show ¬ wList = wData; decide)), if_neg (fun e => absurd e.1 (by show ¬ wList = wStat; decide)), if_pos (show (wList :: r.list.map ent).getD 0 [] = wList from rfl)]
    rw [List.tail_cons, hte]
  · unfold answer; rw [if_neg (fun e => e rfl), if_neg (by decide), if_neg (by decide), if_pos rfl]
    rw [hee]; rfl
theorem back_any (k : Int) (r : Res) (hr : r.ok) : parseAns (answer k r) = some (want k r) := by
  by_cases h : r.err = 0
  · by_cases h9 : k = 9
    · subst h9; exact back_data r h
    by_cases h10 : k = 10
    · subst h10; exact back_stat r hr h
    by_cases h11 : k = 11
    · subst h11; exact back_list r hr h
    have h' : ¬ r.err ≠ 0 := fun e => e h
    have ha : answer k r = [111, 107] := by unfold answer; rw [if_neg h', if_neg h9, if_neg h10, if_neg h11]
    have hw : want k r = resZero := by unfold want; rw [if_neg h', if_neg h9, if_neg h10, if_neg h11]
    rw [ha, hw]
    exact parse_of (ws := [[111, 107]]) (k := 0) (by decide) rfl rfl
  · exact back_error k r hr h
theorem join_mem (c : UInt8) (xs : List (List UInt8)) (d : UInt8) (h : d ∈ Lib.join xs [c]) : d = c ∨ ∃ x ∈ xs, d ∈ x := by
  cases xs with
  | nil => simp [Lib.join_nil] at h
  | cons x r =>
    rw [Lib.join_cons] at h
    rcases List.mem_append.1 h with h | h
    · exact .inr ⟨x, by simp, h⟩
    · unfold Lib.joinTail at h
      obtain ⟨y, hy, hd⟩ := List.mem_flatten.1 h
      obtain ⟨z, hz, rfl⟩ := List.mem_map.1 hy
      rcases List.mem_append.1 hd with hd | hd
      · left; simpa using hd
      · exact .inr ⟨z, by simp [hz], hd⟩
theorem answer_mem (k : Int) (r : Res) : ∀ d ∈ answer k r, 32 ≤ d.toNat := by
  intro d hd
  have hi : ∀ n, d ∈ Lib.itoa n → 32 ≤ d.toNat := fun n h => by have := itoa_mem n d h; omega
  have hw : ∀ l : List UInt8, (l.all fun c => decide (32 ≤ c.toNat)) = true → d ∈ l → 32 ≤ d.toNat := fun l h hd => by simpa using (List.all_eq_true.1 h) d hd
  unfold answer at hd
  split at hd
  · rcases List.mem_append.1 hd with h | h
    · exact hw _ (by decide) h
    · exact hi _ h
  split at hd
  · rcases List.mem_append.1 hd with h | h
    · exact hw _ (by decide) h
    · have := hexes_mem _ d h; omega
  split at hd
  · rcases List.mem_append.1 hd with h | h
    · rcases List.mem_append.1 h with h | h
      · rcases List.mem_append.1 h with h | h
        · rcases List.mem_append.1 h with h | h
          · rcases List.mem_append.1 h with h | h
            · exact hw _ (by decide) h
            · exact hi _ h
          · exact hw _ (by decide) h
        · exact hi _ h
      · exact hw _ (by decide) h
    · exact hi _ h
  split at hd
  · rcases join_mem 32 _ d hd with rfl | ⟨x, hx, h⟩
    · decide
    · rcases List.mem_cons.1 hx with rfl | hx
      · exact hw _ (by decide) h
      · obtain ⟨e, _, rfl⟩ := List.mem_map.1 hx
        have := ent_mem e d h; omega
  · exact hw _ (by decide) hd
theorem answer_no10 (k : Int) (r : Res) : Lib.indexByte (answer k r) 10 = -1 := by
  rw [indexByte_idx, if_neg]
  intro h
  have := answer_mem k r 10 (List.idxOf_lt_length_iff.1 h)
  exact absurd this (by decide)
/-- How long an answer's line is: at most this. -/
def bulkE (l : List Ent) : Nat := (l.map fun e => 3 * e.name.length + 24).sum
theorem join_sum (x : List UInt8) (xs : List (List UInt8)) : (Lib.join (x :: xs) [32]).length = x.length + (xs.map fun y => y.length + 1).sum := by
  rw [Lib.join_cons, List.length_append]
  congr 1
  induction xs with
  | nil => rfl
  | cons y r ih => rw [joinTail_cons, List.length_cons, List.length_append, ih, List.map_cons, List.sum_cons]; omega
theorem list_len (l : List Ent) (h : ∀ e ∈ l, in64 e.kind) : (Lib.join ([108, 105, 115, 116] :: l.map ent) [32]).length ≤ 4 + bulkE l := by
  rw [join_sum]
  show 4 + _ ≤ _
  refine Nat.add_le_add_left ?_ 4
  unfold bulkE
  induction l with
  | nil => simp
  | cons e l ih =>
    have h1 := quo_len e.name
    have h2 := Lib.itoa_length_le e.kind (h e (by simp)).1 (h e (by simp)).2
    have h3 := ih fun x hx => h x (by simp [hx])
    simp only [List.map_cons, List.sum_cons]
    have : (ent e).length ≤ 3 * e.name.length + 23 := by unfold ent; rw [List.length_append, List.length_cons]; omega
    omega
theorem answer_len (k : Int) (r : Res) (hr : r.ok) : (answer k r).length ≤ 100 + 2 * r.data.length + bulkE r.list := by
  have h1 := Lib.itoa_length_le r.err hr.1.1 hr.1.2
  have h2 := Lib.itoa_length_le r.kind hr.2.1.1 hr.2.1.2
  have h3 := Lib.itoa_length_le r.links hr.2.2.1.1 hr.2.2.1.2
  have h4 := Lib.itoa_length_le r.size hr.2.2.2.1.1 hr.2.2.2.1.2
  have h5 := list_len r.list hr.2.2.2.2
  have h6 := hexes_len r.data
  unfold answer
  split
  · simp; omega
  split
  · rw [List.length_append, h6]; simp; omega
  split
  · simp; omega
  split
  · omega
  · simp; omega
end Go.Proofs.YtpoongljokbgcaaDoor.Tr
/- Plain law: the lines of a text. -/
namespace Go.Proofs.YtpoongljokbgcaaDoor
namespace Tr
def lnsF : Nat → List UInt8 → List (List UInt8)
  | 0, _ => []
  | n + 1, s => if s = [] then [] else (Lib.cut s [10]).1 :: lnsF n (Lib.cut s [10]).2.1
/-- The lines of a text: each ends with a newline, the last may do without. -/
def lns (s : List UInt8) : List (List UInt8) := lnsF s.length s
theorem split_mem (c : UInt8) (s : List UInt8) (h : c ∈ s) : ∃ a b, s = a ++ c :: b ∧ c ∉ a := by
  induction s with
  | nil => simp at h
  | cons x r ih =>
    by_cases hx : x = c
    · exact ⟨[], r, by rw [hx]; rfl, by simp⟩
    · have hr : c ∈ r := by
        rcases List.mem_cons.1 h with h | h
        · exact absurd h.symm hx
        · exact h
      obtain ⟨a, b, h1, h2⟩ := ih hr
      exact ⟨x :: a, b, by rw [h1]; rfl, by simp [h2, Ne.symm hx]⟩
theorem index_no (c : UInt8) (a : List UInt8) (h : c ∉ a) : Lib.index a [c] = -1 := by
  induction a with
  | nil => rw [Lib.index]; simp
  | cons d a ih =>
    simp only [List.mem_cons, not_or] at h
    rw [Lib.index]
    have := ih h.2
    simp [List.isPrefixOf, h.1, this]
theorem cut_no (c : UInt8) (s : List UInt8) (h : c ∉ s) : Lib.cut s [c] = (s, [], false) := by
  unfold Lib.cut
  rw [index_no c s h, if_neg (by omega)]
theorem cut_rest_lt (s : List UInt8) (h : s ≠ []) : (Lib.cut s [10]).2.1.length < s.length := by
  by_cases hm : (10 : UInt8) ∈ s
  · obtain ⟨a, b, rfl, ha⟩ := split_mem 10 s hm
    rw [cut_at 10 a b ha]
    simp
    omega
  · rw [cut_no 10 s hm]
    exact List.length_pos_iff.2 h
theorem lnsF_enough (n : Nat) (s : List UInt8) (h : s.length ≤ n) : lnsF n s = lns s := by
  induction n using Nat.strongRecOn generalizing s with
  | ind n ih =>
    unfold lns
    cases n with
    | zero =>
      obtain rfl : s = [] := List.eq_nil_of_length_eq_zero (by omega)
      rfl
    | succ n =>
      by_cases hs : s = []
      · subst hs; rfl
      · have hl := cut_rest_lt s hs
        obtain ⟨m, hm⟩ : ∃ m, s.length = m + 1 := ⟨s.length - 1, by omega⟩
        rw [hm, lnsF, lnsF, if_neg hs, if_neg hs, ih n (by omega) _ (by omega)]
        have : lnsF m (Lib.cut s [10]).2.1 = lns (Lib.cut s [10]).2.1 := ih m (by omega) _ (by omega)
        rw [this]
theorem lns_nil : lns [] = [] := rfl
theorem lns_cons (s : List UInt8) (h : s ≠ []) : lns s = (Lib.cut s [10]).1 :: lns (Lib.cut s [10]).2.1 := by
  have hl := cut_rest_lt s h
  obtain ⟨m, hm⟩ : ∃ m, s.length = m + 1 := ⟨s.length - 1, by omega⟩
  conv => lhs; unfold lns; rw [hm, lnsF, if_neg h]
  rw [lnsF_enough m _ (by omega)]
theorem lns_at (a b : List UInt8) (h : (10 : UInt8) ∉ a) : lns (a ++ 10 :: b) = a :: lns b := by
  rw [lns_cons _ (by simp), cut_at 10 a b h]
theorem lns_last (a : List UInt8) (h : (10 : UInt8) ∉ a) (ha : a ≠ []) : lns a = [a] := by
  rw [lns_cons a ha, cut_no 10 a h]; rfl
theorem lns_len (n : Nat) (s : List UInt8) (h : s.length ≤ n) : (lns s).length ≤ n := by
  induction n using Nat.strongRecOn generalizing s with
  | ind n ih =>
    by_cases hs : s = []
    · subst hs; rw [lns_nil]; simp
    · have hl := cut_rest_lt s hs
      rw [lns_cons s hs, List.length_cons]
      have := ih (n - 1) (by have := List.length_pos_iff.2 hs; omega) (Lib.cut s [10]).2.1 (by omega)
      have := List.length_pos_iff.2 hs
      omega
theorem lns_mem (n : Nat) (s : List UInt8) (h : s.length ≤ n) : ∀ x ∈ lns s, x.length ≤ n := by
  induction n using Nat.strongRecOn generalizing s with
  | ind n ih =>
    by_cases hs : s = []
    · subst hs; rw [lns_nil]; simp
    · have hl := cut_rest_lt s hs
      have hp := List.length_pos_iff.2 hs
      rw [lns_cons s hs]
      intro x hx
      rcases List.mem_cons.1 hx with rfl | hx
      · exact Nat.le_trans (cut_len s [10]).1 h
      · have := ih (n - 1) (by omega) (Lib.cut s [10]).2.1 (by omega) x hx
        omega
end Tr
end Go.Proofs.YtpoongljokbgcaaDoor
