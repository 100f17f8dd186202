/- Arguments as plain data: a slice of entries, a slice of changes; how long a block is at most. -/
import Derived.Test.YtmlgjmcenjbbeaaAd
namespace Go.Proofs.Ytmlgjmcenjbbeaa
open Go.ChangeShapes Go.WideShapes Go.ChangeAt Go.RowKit
/-- A change, as the law takes it. -/
structure Chg where
  act : Int
  e : Ent
def chgL (c : Chg) : List Value := [.int .i64 c.act, .string (S c.e.name), .int .i64 c.e.ino, .int .i64 c.e.kind]
theorem chgL_len (c : Chg) : (chgL c).length = 4 := rfl
abbrev RdG := RdC chgL 4
section
variable {H : Type} {enc : TypeId × Value → H} {W : World} {base : Nat} {sp : Nat → Bool} {held : Bool}
theorem bulk_lits (k : IntKind) (zs : List Int) : Rows.uptoBulkAll (H := H) (lits k zs) = zs.length := by
  induction zs with
  | nil => rfl
  | cons z zs ih =>
    have : Rows.uptoBulkAll (H := H) (lits k (z :: zs)) = 1 + Rows.uptoBulkAll (H := H) (lits k zs) := rfl
    rw [this, ih, List.length_cons]; omega
theorem block_bulk {v : Value} {d : DataW H} {p : List MemPlace} {l : List UInt8} (hr : RdB W v l) (h : DataW.Trod enc Try.prog W base sp held 22 v d p) : l.length ≤ Rows.uptoBulk d := by
  obtain ⟨a0, c0, rfl⟩ := hr.len
  obtain ⟨fuel, hf⟩ := h
  have hf' : DataW.trod enc Try.prog W base sp held fuel 22 [Value.slice a0 l.length c0] = some (d, p) := hf
  rcases open_ints Try.underlying22 Try.underlying5 (by kernel_rfl) hf' with ⟨hcs, hx⟩ | ⟨a, len, cap, zs, hcs, _, hl, hmx, hz, hx, hcell, hwz⟩
  · simp at hcs
    rw [hcs.2.1]; exact Nat.zero_le _
  · simp at hcs
    have hlen : l.length = len := hcs.2.1
    have hd := (Prod.mk.inj hx).1
    rw [hd]
    show l.length ≤ Rows.uptoBulkAll (lits .u8 (zs.take len)) + Rows.uptoBulkAll (lits .u8 (zs.drop len)) + 1
    rw [bulk_lits, bulk_lits, List.length_take, List.length_drop]
    have : len ≤ zs.length := by rw [hz]; split <;> omega
    omega
theorem cells_ent {n : Nat} {cs : List Value} {x : DataW H × List MemPlace} (hcl : cs.length = 3) (htr : DataW.trod enc Try.prog W base sp held n 24 cs = some x) : ∃ e : Ent, cs = entL e ∧ e.name.length ≤ maxLen := by
  have k9 : Try.prog.cellsOf 9 = 1 := by kernel_rfl
  have k3 : Try.prog.cellsOf 3 = 1 := by kernel_rfl
  obtain ⟨ys, n', _, hy, _, hyl, hf⟩ := DataW.trod_struct Try.underlying24 htr
  match cs, hcl, ys, hyl with
  | [u0, u1, u2], _, [z0, z1, z2], _ =>
  have q0 : DataW.trod enc Try.prog W base sp held n' 9 (([u0, u1, u2].drop 0).take (Try.prog.cellsOf 9)) = some z0 := hf 0 _ rfl
  have q1 : DataW.trod enc Try.prog W base sp held n' 3 (([u0, u1, u2].drop 1).take (Try.prog.cellsOf 3)) = some z1 := hf 1 _ rfl
  have q2 : DataW.trod enc Try.prog W base sp held n' 3 (([u0, u1, u2].drop 2).take (Try.prog.cellsOf 3)) = some z2 := hf 2 _ rfl
  rw [k9] at q0
  rw [k3] at q1 q2
  obtain ⟨s, e0, r0, hsz⟩ := DataW.trod_string Try.underlying9 q0
  obtain ⟨n1, e1, r1, _⟩ := DataW.trod_int Try.underlying3 q1
  obtain ⟨n2, e2, r2, w2⟩ := DataW.trod_int Try.underlying3 q2
  obtain rfl : u0 = .string s := by simpa using e0
  obtain rfl : u1 = .int .i64 n1 := by simpa using e1
  obtain rfl : u2 = .int .i64 n2 := by simpa using e2
  exact ⟨⟨s.data.toList, n1, n2⟩, by unfold entL; rw [show S s.data.toList = s from by unfold S; simp], by simpa using hsz⟩
theorem cells_chg {n : Nat} {cs : List Value} {x : DataW H × List MemPlace} (hcl : cs.length = 4) (htr : DataW.trod enc Try.prog W base sp held n 54 cs = some x) : ∃ c : Chg, cs = chgL c ∧ c.e.name.length ≤ maxLen := by
  have k3 : Try.prog.cellsOf 3 = 1 := by kernel_rfl
  have k24 : Try.prog.cellsOf 24 = 3 := by kernel_rfl
  obtain ⟨ys, n', _, hy, _, hyl, hf⟩ := DataW.trod_struct Try.underlying54 htr
  match cs, hcl, ys, hyl with
  | [u, u0, u1, u2], _, [z0, z1], _ =>
  have q0 : DataW.trod enc Try.prog W base sp held n' 3 (([u, u0, u1, u2].drop 0).take (Try.prog.cellsOf 3)) = some z0 := hf 0 _ rfl
  have q1 : DataW.trod enc Try.prog W base sp held n' 24 (([u, u0, u1, u2].drop 1).take (Try.prog.cellsOf 24)) = some z1 := hf 1 _ rfl
  rw [k3] at q0
  rw [k24] at q1
  obtain ⟨n1, e1, r1, _⟩ := DataW.trod_int Try.underlying3 q0
  obtain rfl : u = .int .i64 n1 := by simpa using e1
  obtain ⟨e, he, hle⟩ := cells_ent (n := n') rfl q1
  have he : [u0, u1, u2] = entL e := he
  exact ⟨⟨n1, e⟩, by show [Value.int .i64 n1, u0, u1, u2] = _ :: entL e; rw [← he], hle⟩
/-- A slice of structs, by what each one's cells are. -/
theorem open_rows {α : Type} [Inhabited α] {f : α → List Value} {ok : α → Prop} {k t e : Nat} {fuel : Nat} {c : Value} {x : DataW H × List MemPlace} (hk : ∀ y, (f y).length = k) (hk0 : 0 < k) (ht : Try.prog.underlying t = some (.slice e)) (he : Try.prog.cellsOf e = k)
    (hcell : ∀ (n : Nat) (cs : List Value) (x : DataW H × List MemPlace), cs.length = k → DataW.trod enc Try.prog W base sp held n e cs = some x → ∃ y, cs = f y ∧ ok y)
    (h : DataW.trod enc Try.prog W base sp held fuel t [c] = some x) : ∃ xs : List α, RdC f k W c xs ∧ ∀ y ∈ xs, ok y := by
  rcases Go.Deep.open_slice ht h with ⟨hcs, hx⟩ | ⟨a, len, cap, m, n, D, Pl, hcs, _, hl, hmx, hm, hx, hi⟩
  · simp at hcs; subst hcs
    exact ⟨[], RdC.nil _ _ _, fun y hy => by simp at hy⟩
  · simp at hcs; subst hcs
    have hlm : len ≤ m := by rw [hm]; split <;> omega
    have hE : ∀ i, i < m → ∃ y : α, (∀ j u, (f y)[j]? = some u → W.cell? (a.add (i * k + j)) = some u) ∧ ok y := by
      intro i him
      obtain ⟨cs, hcs, htr⟩ := hi i him
      rw [he] at hcs
      obtain ⟨_, hcl, hat⟩ := World.cells?_some hcs
      obtain ⟨y, hy, hok⟩ := hcell n cs _ hcl htr
      refine ⟨y, fun j u hu => ?_, hok⟩
      rw [← hy] at hu
      have hj := (List.getElem?_eq_some_iff.1 hu).1
      have := hat j (by rw [← hcl]; exact hj)
      rw [Go.Deep.add_add] at this
      rw [this]; exact hu
    have hch : ∃ g : Nat → α, ∀ i, i < m → (∀ j u, (f (g i))[j]? = some u → W.cell? (a.add (i * k + j)) = some u) ∧ ok (g i) :=
      ⟨fun i => if h : i < m then (hE i h).choose else default, fun i him => by
        simp only [him, dite_true]; exact (hE i him).choose_spec⟩
    obtain ⟨g, hgk⟩ := hch
    have hg := fun i h => (hgk i h).1
    have hxl : ((List.range len).map g).length = len := by simp
    refine ⟨(List.range len).map g, ⟨some a, cap, by rw [hxl], by omega, fun j y hj => ?_⟩, fun y hy => by
      obtain ⟨i, hi', rfl⟩ := List.mem_map.1 hy
      exact (hgk i (by have := List.mem_range.1 hi'; omega)).2⟩
    have hjl : j < len := by have := (List.getElem?_eq_some_iff.1 hj).1; simpa using this
    obtain rfl : g j = y := by simpa [hjl] using hj
    have h0 : 0 < (f (g 0)).length := by rw [hk]; exact hk0
    have hs := World.cell?_spot (hg 0 (by omega) 0 _ (List.getElem?_eq_getElem h0))
    obtain ⟨b, o, spot⟩ := a
    have : spot = none := by simpa [Addr.add] using hs
    subst this
    have he : ∀ k, (⟨b, o, none⟩ : Addr).add k = ⟨b, o + k, none⟩ := fun k => by unfold Addr.add; split <;> simp_all
    have hj0 : 0 < (f (g j)).length := by rw [hk]; exact hk0
    have hlt := hg j (by omega) 0 _ (List.getElem?_eq_getElem hj0)
    rw [he] at hlt
    refine ⟨b, o, rfl, cell_lt hlt, fun i u hu => ?_⟩
    have := hg j (by omega) i u hu
    rw [he] at this
    rw [Nat.add_assoc]
    exact this
instance : Inhabited Ent := ⟨⟨[], 0, 0⟩⟩
instance : Inhabited Chg := ⟨⟨0, ⟨[], 0, 0⟩⟩⟩
theorem open_ents {b0 : Nat} {r : Reach} {v : Value} {d : DataW H} {p : List MemPlace} (hv : Value.okWide Try.prog W r b0 27 v) (h : DataW.Trod enc Try.prog W base sp held 27 v d p) : ∃ xs, RdE W v xs := by
  obtain ⟨a0, len0, cap0, rfl⟩ := okWide_slice Try.underlying27 hv
  obtain ⟨fuel, hf⟩ := h
  obtain ⟨xs, h1, _⟩ := open_rows (f := entL) entL_len (by decide) Try.underlying27 (by kernel_rfl) (fun n cs x h1 h2 => cells_ent h1 h2) hf
  exact ⟨xs, h1⟩
theorem open_chgs {b0 : Nat} {r : Reach} {v : Value} {d : DataW H} {p : List MemPlace} (hv : Value.okWide Try.prog W r b0 51 v) (h : DataW.Trod enc Try.prog W base sp held 51 v d p) : ∃ xs, RdG W v xs ∧ ∀ c ∈ xs, c.e.name.length ≤ maxLen := by
  obtain ⟨a0, len0, cap0, rfl⟩ := okWide_slice Try.underlying51 hv
  obtain ⟨fuel, hf⟩ := h
  exact open_rows (f := chgL) chgL_len (by decide) Try.underlying51 (by kernel_rfl) (fun n cs x h1 h2 => cells_chg h1 h2) hf
end
end Go.Proofs.Ytmlgjmcenjbbeaa
