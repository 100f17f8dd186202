/- Arguments as plain data: a slice of bytes, a slice of entries, an answer. -/
import Derived.Test.YtpoongljokbgcaaDoorX
import Derived.Test.YtpoongljokbgcaaDoorAd
import Derived.ChangeMaps5
import Derived.Deep.Slices
import Derived.Deep.Fields
import Derived.ChangeSame
namespace Go.Proofs.YtpoongljokbgcaaDoor
open Go.ChangeShapes Go.WideShapes Go.ChangeAt Go.RowKit
theorem cell_lt {W : World} {b o : Nat} {v : Value} (h : W.cell? ⟨b, o, none⟩ = some v) : b < W.heap.size := by
  rcases Nat.lt_or_ge b W.heap.size with h' | h'
  · exact h'
  · have : W.heap[b]? = none := by simp [h']
    simp [World.cell?, this] at h
theorem in64_of {n : Int} (h : (Lit.int .i64 n).wf = true) : in64 n := bounds_i64 h
section
variable {H : Type} {enc : TypeId × Value → H} {W : World} {base : Nat} {sp : Nat → Bool} {held : Bool}
theorem open_bytes {fuel : Nat} {c : Value} {x : DataW H × List MemPlace} (hsp : ∀ b, sp b = true) (h : DataW.trod enc Tryd.prog W base sp held fuel 28 [c] = some x) :
    ∃ (l : List UInt8) (a : Option Addr) (cap : Nat), c = .slice a l.length cap ∧ RdB W (.slice a l.length cap) l := by
  rcases open_ints Tryd.underlying28 Tryd.underlying5 (by kernel_rfl) h with ⟨hcs, hx⟩ | ⟨a, len, cap, zs, hcs, _, hl, hmx, hz, hx, hcell, hwz⟩
  · simp at hcs; subst hcs
    exact ⟨[], none, 0, rfl, Rd.nil _ _⟩
  · simp at hcs; subst hcs
    rw [hsp a.block, if_pos rfl] at hz
    obtain ⟨l, hl'⟩ : ∃ l : List UInt8, l = (zs.take len).map fun z => UInt8.ofNat z.toNat := ⟨_, rfl⟩
    have hll : l.length = len := by rw [hl']; simp; omega
    refine ⟨l, some a, cap, by rw [hll], some a, cap, rfl, by omega, fun j y hj => ?_⟩
    have hjl : j < l.length := (List.getElem?_eq_some_iff.1 hj).1
    have hjz : j < zs.length := by omega
    have hc := hcell j hjz
    have hs := World.cell?_spot (hcell 0 (by omega))
    obtain ⟨b, o, spot⟩ := a
    have : spot = none := by simpa [Addr.add] using hs
    subst this
    have he : (⟨b, o, none⟩ : Addr).add j = ⟨b, o + j, none⟩ := by unfold Addr.add; split <;> simp_all
    rw [he] at hc
    refine ⟨b, o, rfl, cell_lt hc, ?_⟩
    rw [hc]
    have hw := bounds_u8 (hwz (zs[j]) (List.getElem_mem hjz))
    rw [hl', List.getElem?_map, List.getElem?_take_of_lt (by omega), List.getElem?_eq_getElem hjz] at hj
    simp only [Option.map_some, Option.some.injEq] at hj
    subst hj
    rw [List.getD_eq_getElem?_getD, List.getElem?_eq_getElem hjz]
    unfold byteV
    simp only [Option.getD_some, Option.some.injEq, Value.int.injEq, true_and, UInt8.toNat_ofNat']
    have : zs[j].toNat < 256 := by omega
    omega
set_option maxRecDepth 100000 in
theorem open_ents {fuel : Nat} {c : Value} {x : DataW H × List MemPlace} (h : DataW.trod enc Tryd.prog W base sp held fuel 31 [c] = some x) :
    ∃ (xs : List Ent) (a : Option Addr) (cap : Nat), c = .slice a xs.length cap ∧ RdE W (.slice a xs.length cap) xs ∧ (∀ e ∈ xs, in64 e.kind) ∧ (xs.map fun e => e.name.length + 4).sum ≤ Rows.uptoBulk x.1 := by
  have h3 : Tryd.prog.cellsOf 39 = 3 := by kernel_rfl
  have k9 : Tryd.prog.cellsOf 9 = 1 := by kernel_rfl
  have k3 : Tryd.prog.cellsOf 3 = 1 := by kernel_rfl
  rcases Go.Deep.open_slice Tryd.underlying31 h with ⟨hcs, hx⟩ | ⟨a, len, cap, m, n, D, Pl, hcs, _, hl, hmx, hm, hx, hi⟩
  · simp at hcs; subst hcs
    exact ⟨[], none, 0, rfl, RdE.nil _, fun e he => by simp at he, by simp⟩
  · simp at hcs; subst hcs
    have hlm : len ≤ m := by rw [hm]; split <;> omega
    have hE : ∀ i, i < m → ∃ e : Ent, in64 e.kind ∧ W.cell? (a.add (i * 3)) = some (.string (S e.name)) ∧ W.cell? (a.add (i * 3 + 1)) = some (.int .i64 e.ino) ∧ W.cell? (a.add (i * 3 + 2)) = some (.int .i64 e.kind) ∧ Rows.uptoBulk (D i) = e.name.length + 4 := by
      intro i him
      obtain ⟨cs, hcs, htr⟩ := hi i him
      rw [h3] at hcs
      obtain ⟨_, hcl, hat⟩ := World.cells?_some hcs
      obtain ⟨ys, n', _, hy, _, hyl, hf⟩ := DataW.trod_struct Tryd.underlying39 htr
      match cs, hcl, ys, hyl with
      | [u0, u1, u2], _, [z0, z1, z2], _ =>
      have q0 : DataW.trod enc Tryd.prog W base sp held n' 9 (([u0, u1, u2].drop 0).take (Tryd.prog.cellsOf 9)) = some z0 := hf 0 _ rfl
      have q1 : DataW.trod enc Tryd.prog W base sp held n' 3 (([u0, u1, u2].drop 1).take (Tryd.prog.cellsOf 3)) = some z1 := hf 1 _ rfl
      have q2 : DataW.trod enc Tryd.prog W base sp held n' 3 (([u0, u1, u2].drop 2).take (Tryd.prog.cellsOf 3)) = some z2 := hf 2 _ rfl
      rw [k9] at q0
      rw [k3] at q1 q2
      have c0 := hat 0 (by simp)
      have c1 := hat 1 (by simp)
      have c2 := hat 2 (by simp)
      rw [Go.Deep.add_add] at c0 c1 c2
      obtain ⟨s, e0, r0, _⟩ := DataW.trod_string Tryd.underlying9 q0
      obtain ⟨n1, e1, r1, _⟩ := DataW.trod_int Tryd.underlying3 q1
      obtain ⟨n2, e2, r2, w2⟩ := DataW.trod_int Tryd.underlying3 q2
      obtain rfl : u0 = .string s := by simpa using e0
      obtain rfl : u1 = .int .i64 n1 := by simpa using e1
      obtain rfl : u2 = .int .i64 n2 := by simpa using e2
      refine ⟨⟨s.data.toList, n1, n2⟩, in64_of w2, by have : S s.data.toList = s := by unfold S; simp
                                                      rw [this]; exact c0, c1, c2, ?_⟩
      simp only [Prod.mk.injEq] at hy
      rw [hy.1, r0, r1, r2]
      simp [Rows.uptoBulk, Rows.uptoBulkAll]
    have hch : ∃ f : Nat → Ent, ∀ i, i < m → in64 (f i).kind ∧ W.cell? (a.add (i * 3)) = some (.string (S (f i).name)) ∧ W.cell? (a.add (i * 3 + 1)) = some (.int .i64 (f i).ino) ∧ W.cell? (a.add (i * 3 + 2)) = some (.int .i64 (f i).kind) ∧ Rows.uptoBulk (D i) = (f i).name.length + 4 :=
      ⟨fun i => if h : i < m then (hE i h).choose else ⟨[], 0, 0⟩, fun i him => by
        simp only [him, dite_true]; exact (hE i him).choose_spec⟩
    obtain ⟨f, hf⟩ := hch
    have hxl : ((List.range len).map f).length = len := by simp
    refine ⟨(List.range len).map f, some a, cap, by rw [hxl], ⟨some a, cap, rfl, by omega, fun j y hj => ?_⟩, ?_, ?_⟩
    · have hjl : j < len := by have := (List.getElem?_eq_some_iff.1 hj).1; simpa using this
      obtain rfl : f j = y := by simpa [hjl] using hj
      obtain ⟨_, d0, d1, d2, _⟩ := hf j (by omega)
      have hs := World.cell?_spot (hf 0 (by omega)).2.1
      obtain ⟨b, o, spot⟩ := a
      have : spot = none := by simpa [Addr.add] using hs
      subst this
      have he : ∀ k, (⟨b, o, none⟩ : Addr).add k = ⟨b, o + k, none⟩ := fun k => by unfold Addr.add; split <;> simp_all
      rw [he] at d0 d1 d2
      exact ⟨b, o, rfl, cell_lt d0, d0, by rw [Nat.add_assoc]; exact d1, by rw [Nat.add_assoc]; exact d2⟩
    · intro e he
      obtain ⟨i, hi', rfl⟩ := List.mem_map.1 he
      exact (hf i (by have := List.mem_range.1 hi'; omega)).1
    · rw [hx]
      have hsum : ∀ l : List Nat, (∀ i ∈ l, i < m) → ((l.map f).map fun e => e.name.length + 4).sum = Rows.uptoBulkAll (l.map D) := by
        intro l
        induction l with
        | nil => intro _; rfl
        | cons i l ih =>
          intro hl
          simp only [List.map_cons, List.sum_cons, Rows.uptoBulkAll]
          rw [ih (fun j hj => hl j (by simp [hj])), (hf i (hl i (by simp))).2.2.2.2]
      rw [hsum _ (fun i hi' => by have := List.mem_range.1 hi'; omega)]
      simp only [Rows.uptoBulk]
      omega
end
end Go.Proofs.YtpoongljokbgcaaDoor
