/- The record at a place: the plain law. Blocks known whole. -/
import Derived.Test.YtmlgjmcenjbbeaaF
import Derived.Below
import Derived.Deep.Draws
import Derived.Laws.AppendOwn
namespace Go.Proofs.Ytmlgjmcenjbbeaa
open Go.RowKit
/-- Block b is just these cells. -/
def Box (W : World) (b : Nat) (t : TypeId) (vs : Array Value) : Prop := W.heap[b]? = some (.cells vs t (0, 0))
theorem Box.lt {W : World} {b : Nat} {t : TypeId} {vs : Array Value} (h : Box W b t vs) : b < W.heap.size := (Array.getElem?_eq_some_iff.1 h).1
theorem Box.cell {W : World} {b : Nat} {t : TypeId} {vs : Array Value} (h : Box W b t vs) (j : Nat) : W.cell? ⟨b, j, none⟩ = vs[j]? := by
  simp [World.cell?, show W.heap[b]? = _ from h]
theorem Box.get {W : World} {b : Nat} {t : TypeId} {vs : Array Value} (h : Box W b t vs) (j : Nat) (v : Value) (hv : vs[j]? = some v) : W.cell? ⟨b, j, none⟩ = some v := (h.cell j).trans hv
theorem Box.frozen {W : World} {b : Nat} {t : TypeId} {vs : Array Value} (h : Box W b t vs) (j : Nat) : W.frozen? ⟨b, j, none⟩ = false := by
  simp [World.frozen?, show W.heap[b]? = _ from h]
theorem Box.below {W W' : World} {b : Nat} {t : TypeId} {vs : Array Value} (h : Box W b t vs) (hb : Below W.heap.size W W') : Box W' b t vs := (hb.block b h.lt).trans h
theorem Box.set {W : World} {b : Nat} {t : TypeId} {vs : Array Value} (h : Box W b t vs) (j : Nat) (v : Value) : Box (W.setCell ⟨b, j, none⟩ v) b t (vs.setIfInBounds j v) := by
  unfold Box at h ⊢
  simp [World.setCell, Array.getElem?_modify, h]
theorem Box.new (W : World) (t : TypeId) (vs : Array Value) : Box (W.alloc (.cells vs t)) W.heap.size t vs := heap_alloc_new W _
theorem Box.alloc {W : World} {b : Nat} {t : TypeId} {vs : Array Value} (h : Box W b t vs) (o : Obj) : Box (W.alloc o) b t vs := h.below ((Below.refl _ _).alloc (Nat.le_refl _) _)
theorem Box.drew {W : World} {b : Nat} {t : TypeId} {vs : Array Value} (h : Box W b t vs) : Box W.drew b t vs := h
theorem Box.grown {W W' : World} {b : Nat} {t : TypeId} {vs : Array Value} {row : Option Nat} (h : Box W b t vs) (hg : W.grownBy W' row) (hne : some b ≠ row) : Box W' b t vs := (hg.block b h.lt hne).trans h
/-- A part of what a slice reads as. -/
theorem Rd.part {α : Type} {enc : α → Value} {W : World} {bb o n cap : Nat} {xs : List α} (h : Rd enc W (.slice (some ⟨bb, o, none⟩) n cap) xs) (i m c : Nat) (hi : i + m ≤ xs.length) (hc : m ≤ c) :
    Rd enc W (.slice (some ⟨bb, o + i, none⟩) m c) ((xs.drop i).take m) := by
  obtain ⟨a, cap', h1, h2, h3⟩ := h
  cases h1
  have hl : ((xs.drop i).take m).length = m := by rw [List.length_take, List.length_drop]; omega
  refine ⟨_, c, by rw [hl], by rw [hl]; exact hc, fun j x hj => ?_⟩
  have hj' : xs[i + j]? = some x := by
    rw [List.getElem?_take] at hj
    split at hj
    · rw [List.getElem?_drop] at hj; exact hj
    · cases hj
  obtain ⟨b', o', e, hb, hcell⟩ := h3 (i + j) x hj'
  cases e
  exact ⟨bb, o + i, rfl, hb, by rw [Nat.add_assoc]; exact hcell⟩
namespace Nm
def klen (b : List UInt8) (a : Nat) : Nat := (b.getD (a + 6) 0).toNat
def knd (b : List UInt8) (a : Nat) : Nat := (b.getD (a + 7) 0).toNat
def inoAt (b : List UInt8) (a : Nat) : Nat := num ((b.drop a).take 4)
def lenAt (b : List UInt8) (a : Nat) : Nat := num ((b.drop (a + 4)).take 2)
def nameAt (b : List UInt8) (a : Nat) : List UInt8 := (b.drop (a + 8)).take (klen b a)
def recAt (b : List UInt8) (a : Nat) : Rec := ⟨a, lenAt b a, ⟨nameAt b a, inoAt b a, knd b a⟩⟩
/-- May the record at a place be? -/
def Good (b : List UInt8) (a : Nat) : Prop :=
  a + 8 ≤ b.length ∧ lenAt b a % 4 = 0 ∧ 8 ≤ lenAt b a ∧ a + lenAt b a ≤ b.length ∧ klen b a + 8 ≤ lenAt b a ∧
    (if inoAt b a = 0 then klen b a = 0 ∧ knd b a = 0 else chk (recAt b a).e = 0 ∧ need (nameAt b a) ≤ lenAt b a)
instance (b : List UInt8) (a : Nat) : Decidable (Good b a) := by unfold Good; infer_instance
/-- The record at a place. -/
def one (b : List UInt8) (a : Nat) : Option Rec := if Good b a then some (recAt b a) else none
theorem one_yes {b : List UInt8} {a : Nat} (h : Good b a) : one b a = some (recAt b a) := if_pos h
theorem one_no {b : List UInt8} {a : Nat} (h : ¬ Good b a) : one b a = none := if_neg h
end Nm
/-- A record, and whether it may be. -/
def OneRes (x : Option Rec) (w : World) (e : Ending) (w' : World) : Prop :=
  ∃ r, e = .returned (.tuple #[recV r, .bool x.isSome]) ∧ (∀ r', x = some r' → r = r') ∧ Below w.heap.size w w'
theorem oneRes_none {x : Option Rec} {w w' : World} (h : x = none) (r : Rec) (hb : Below w.heap.size w w') : OneRes x w (.returned (.tuple #[recV r, .bool false])) w' := by
  subst h; exact ⟨r, rfl, (fun _ h => by cases h), hb⟩
theorem oneRes_some {x : Option Rec} {w w' : World} {r : Rec} (h : x = some r) (hb : Below w.heap.size w w') : OneRes x w (.returned (.tuple #[recV r, .bool true])) w' := by
  subst h; exact ⟨r, rfl, (fun _ h => by cases h; rfl), hb⟩
end Go.Proofs.Ytmlgjmcenjbbeaa
