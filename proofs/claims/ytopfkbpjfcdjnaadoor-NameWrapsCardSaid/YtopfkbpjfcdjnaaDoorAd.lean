/- Arguments as plain data: a slice of wrappings. -/
import Derived.Test.YtopfkbpjfcdjnaaDoorQ
import Derived.Test.YtopfkbpjfcdjnaaDoorAc
import Derived.Deep.Slices
import Derived.ChangeArms
namespace Go.Proofs.YtopfkbpjfcdjnaaDoor
open Go.ChangeShapes Go.WideShapes Go.ChangeAt Go.RowKit
section
variable {H : Type} {enc : TypeId × Value → H} {W : World} {base : Nat} {sp : Nat → Bool} {held : Bool}
set_option maxRecDepth 100000 in
theorem open_links {r : Reach} {b0 : Nat} {v : Value} {d : DataW H} {p : List MemPlace} (hv : Value.okWide Tryd.prog W r b0 40 v) (h : DataW.Trod enc Tryd.prog W base sp held 40 v d p) :
    ∃ xs : List Lnk, RdL W v xs := by
  have h4 : Tryd.prog.cellsOf 43 = 4 := by kernel_rfl
  have k4 : Tryd.prog.cellsOf 4 = 1 := by kernel_rfl
  have k3 : Tryd.prog.cellsOf 3 = 1 := by kernel_rfl
  have k9 : Tryd.prog.cellsOf 9 = 1 := by kernel_rfl
  obtain ⟨a0, n0, cap0, rfl⟩ := okWide_slice Tryd.underlying40 hv
  obtain ⟨fuel, hf⟩ := h
  have hf' : DataW.trod enc Tryd.prog W base sp held fuel 40 [.slice a0 n0 cap0] = some (d, p) := hf
  rcases Go.Deep.open_slice Tryd.underlying40 hf' with ⟨hcs, hx⟩ | ⟨a, len, cap, m, n, D, Pl, hcs, _, hl, hmx, hm, hx, hi⟩
  · have hcs' := (List.cons.inj hcs).1
    rw [hcs']
    exact ⟨[], none, 0, rfl, Nat.le_refl _, fun j x hj => by simp at hj⟩
  · have hcs' := (List.cons.inj hcs).1
    rw [hcs']
    have hlm : len ≤ m := by rw [hm]; split <;> omega
    have hE : ∀ i, i < m → ∃ o : Lnk, W.cell? (a.add (i * 4)) = some (.bool o.disk) ∧ W.cell? (a.add (i * 4 + 1)) = some (.int .i64 o.sector) ∧ W.cell? (a.add (i * 4 + 2)) = some (.string (S o.op)) ∧ W.cell? (a.add (i * 4 + 3)) = some (.string (S o.path)) := by
      intro i him
      obtain ⟨cs, hcs, htr⟩ := hi i him
      rw [h4] at hcs
      obtain ⟨_, hcl, hat⟩ := World.cells?_some hcs
      obtain ⟨ys, n', _, hy, _, hyl, hg⟩ := DataW.trod_struct Tryd.underlying43 htr
      match cs, hcl, ys, hyl with
      | [u0, u1, u2, u3], _, [z0, z1, z2, z3], _ =>
      have q0 : DataW.trod enc Tryd.prog W base sp held n' 4 (([u0, u1, u2, u3].drop 0).take (Tryd.prog.cellsOf 4)) = some z0 := hg 0 _ rfl
      have q1 : DataW.trod enc Tryd.prog W base sp held n' 3 (([u0, u1, u2, u3].drop 1).take (Tryd.prog.cellsOf 3)) = some z1 := hg 1 _ rfl
      have q2 : DataW.trod enc Tryd.prog W base sp held n' 9 (([u0, u1, u2, u3].drop 2).take (Tryd.prog.cellsOf 9)) = some z2 := hg 2 _ rfl
      have q3 : DataW.trod enc Tryd.prog W base sp held n' 9 (([u0, u1, u2, u3].drop 3).take (Tryd.prog.cellsOf 9)) = some z3 := hg 3 _ rfl
      rw [k4] at q0
      rw [k3] at q1
      rw [k9] at q2 q3
      have c0 := hat 0 (by simp)
      have c1 := hat 1 (by simp)
      have c2 := hat 2 (by simp)
      have c3 := hat 3 (by simp)
      rw [Go.Deep.add_add] at c0 c1 c2 c3
      obtain ⟨bd, e0, _⟩ := DataW.trod_bool Tryd.underlying4 q0
      obtain ⟨sc, e1, _, _⟩ := DataW.trod_int Tryd.underlying3 q1
      obtain ⟨s2, e2, _, _⟩ := DataW.trod_string Tryd.underlying9 q2
      obtain ⟨s3, e3, _, _⟩ := DataW.trod_string Tryd.underlying9 q3
      obtain rfl : u0 = .bool bd := by simpa using e0
      obtain rfl : u1 = .int .i64 sc := by simpa using e1
      obtain rfl : u2 = .string s2 := by simpa using e2
      obtain rfl : u3 = .string s3 := by simpa using e3
      have hS : ∀ s : ByteArray, S s.data.toList = s := fun s => by unfold S; simp
      exact ⟨⟨bd, sc, s2.data.toList, s3.data.toList⟩, c0, c1, by rw [hS]; exact c2, by rw [hS]; exact c3⟩
    have hch : ∃ f : Nat → Lnk, ∀ i, i < m → W.cell? (a.add (i * 4)) = some (.bool (f i).disk) ∧ W.cell? (a.add (i * 4 + 1)) = some (.int .i64 (f i).sector) ∧ W.cell? (a.add (i * 4 + 2)) = some (.string (S (f i).op)) ∧ W.cell? (a.add (i * 4 + 3)) = some (.string (S (f i).path)) :=
      ⟨fun i => if h : i < m then (hE i h).choose else ⟨false, 0, [], []⟩, fun i him => by
        simp only [him, dite_true]; exact (hE i him).choose_spec⟩
    obtain ⟨f, hf⟩ := hch
    have hxl : ((List.range len).map f).length = len := by simp
    refine ⟨(List.range len).map f, some a, cap, by rw [hxl], by rw [hxl]; exact hl, fun j y hj => ?_⟩
    have hjl : j < len := by have := (List.getElem?_eq_some_iff.1 hj).1; simpa using this
    obtain rfl : f j = y := by simpa [hjl] using hj
    obtain ⟨d0, d1, d2, d3⟩ := hf j (by omega)
    have hs := World.cell?_spot (hf 0 (by omega)).1
    obtain ⟨b, o, spot⟩ := a
    have : spot = none := by simpa [Addr.add] using hs
    subst this
    have he : ∀ k, (⟨b, o, none⟩ : Addr).add k = ⟨b, o + k, none⟩ := fun k => by unfold Addr.add; split <;> simp_all
    rw [he] at d0 d1 d2 d3
    exact ⟨b, o, rfl, d0, by rw [Nat.add_assoc]; exact d1, by rw [Nat.add_assoc]; exact d2, by rw [Nat.add_assoc]; exact d3⟩
end
end Go.Proofs.YtopfkbpjfcdjnaaDoor
