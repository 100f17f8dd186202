/- The iterator over a path's ways (name.Ways). -/
import Derived.Test.YtopfkbpjfcdjnaaDoorX
import Derived.RangeFuncNested
import Derived.RangeFuncBound
import Derived.RangeFuncCalls
import Derived.RangeFuncLeaves
import Derived.Shelf.Abstract
import Derived.Shelf.RegionOpen
import Derived.WalkKit
import Derived.OwnWalkIn
import Derived.TacticsInMore
import Derived.LoopNIn
import Derived.LoopIn
namespace Go.Proofs.YtopfkbpjfcdjnaaDoor
open Go.RowKit Go.Shelf
attribute [local go_sem] Oper.semAt_some
namespace Nm
/-- The ways to a path: the paths of its first names. -/
def waysOf (xs : List (List UInt8)) : List (List UInt8) := (List.range (xs.length + 1)).map fun k => upto (xs.take k)
def ways (p : List UInt8) : List (List UInt8) := if (split p).2 = 0 then waysOf (split p).1 else []
theorem waysOf_len (xs : List (List UInt8)) : (waysOf xs).length = xs.length + 1 := by simp [waysOf]
theorem waysOf_take (xs : List (List UInt8)) (k : Nat) (h : k ≤ xs.length) : (waysOf xs).take (k + 1) = (waysOf xs).take k ++ [upto (xs.take k)] := by
  have hk : k < (waysOf xs).length := by rw [waysOf_len]; omega
  rw [List.take_succ_eq_append_getElem hk]
  simp [waysOf]
end Nm
/-- The block whose number stands in a box. -/
def boxOwn (Bx : Nat) (W : World) : Option Nat := (W.cell? ⟨Bx, 0, none⟩).bind Value.ownBlock
/-- Cells lie as they lay, but the box and what the slice in the box holds. -/
structure KeepsBox (Bx : Nat) (W W' : World) : Prop where
  size : W.heap.size ≤ W'.heap.size
  own : boxOwn Bx W' = boxOwn Bx W ∨ ∀ g, boxOwn Bx W' = some g → W.heap.size ≤ g
  same : ∀ (k : Nat) (o : Obj), W.heap[k]? = some o → o.isCells = true → k ≠ Bx → boxOwn Bx W ≠ some k → W'.heap[k]? = some o
theorem KeepsBox.trans {Bx : Nat} {A B C : World} (h : KeepsBox Bx A B) (k : KeepsBox Bx B C) : KeepsBox Bx A C := by
  refine ⟨Nat.le_trans h.size k.size, ?_, fun i o hi hc hne how => ?_⟩
  · rcases k.own with e | hg
    · rw [e]; exact h.own
    · exact .inr fun g e => Nat.le_trans h.size (hg g e)
  · refine k.same i o (h.same i o hi hc hne how) hc hne ?_
    have hlt : i < A.heap.size := (Array.getElem?_eq_some_iff.1 hi).1
    rcases h.own with e | hg
    · rw [e]; exact how
    · intro e; have := hg i e; omega
theorem boxOwn_of {Bx : Nat} {W W' : World} (h : W'.heap[Bx]? = W.heap[Bx]?) : boxOwn Bx W' = boxOwn Bx W := by
  unfold boxOwn
  rw [World.cell?_of_block (w := W) (w' := W') (a := ⟨Bx, 0, none⟩) h]
theorem KeepsBox.put {Bx : Nat} {W : World} {l : Nat} {o o' : Obj} (hl : W.heap[l]? = some o) (hc : o.isCells = false) (hne : l ≠ Bx) : KeepsBox Bx W (W.putObj l o') := by
  refine ⟨by simp [World.putObj], .inl (boxOwn_of (World.putObj_heap_other (by omega))), fun k o2 hk hc2 _ _ => ?_⟩
  have : k ≠ l := by rintro rfl; rw [hl] at hk; cases hk; rw [hc] at hc2; cases hc2
  rw [World.putObj_heap_other this]; exact hk
theorem below_keepsBox {Bx : Nat} {W W' : World} (h : Below W.heap.size W W') (hB : Bx < W.heap.size) : KeepsBox Bx W W' :=
  ⟨h.size, .inl (boxOwn_of (h.block Bx hB)), fun k _ hk _ _ _ => (h.block k (Array.getElem?_eq_some_iff.1 hk).1).trans hk⟩
theorem rd_keepsBox {Bx : Nat} {W W' : World} {v : Value} {xs : List (List UInt8)} {b n cap : Nat} (h : RdS W v xs) (hv : v = .slice (some ⟨b, 0, none⟩) n cap ∨ v = .slice none 0 0) (hk : KeepsBox Bx W W') (hb : b ≠ Bx) (how : boxOwn Bx W ≠ some b) : RdS W' v xs := by
  obtain ⟨a, c, h1, h2, h3⟩ := h
  refine ⟨a, c, h1, h2, fun j x hj => ?_⟩
  obtain ⟨b', o, e1, e2, e3⟩ := h3 j x hj
  rcases hv with hv | hv
  · rw [h1, e1] at hv
    simp only [Value.slice.injEq, Option.some.injEq, Addr.mk.injEq] at hv
    obtain ⟨⟨rfl, rfl, _⟩, _, _⟩ := hv
    refine ⟨b', 0, e1, Nat.lt_of_lt_of_le e2 hk.size, ?_⟩
    have hlk : ∃ o : Obj, W.heap[b']? = some o ∧ o.isCells = true := by
      cases hh : W.heap[b']? with
      | none => simp [World.cell?, hh] at e3
      | some o => cases o <;> first | exact ⟨_, rfl, rfl⟩ | (simp [World.cell?, hh] at e3)
    obtain ⟨o, ho, hc⟩ := hlk
    rw [World.cell?_of_block (w := W) (w' := W') (a := ⟨b', 0 + j, none⟩) ((hk.same b' o ho hc hb how).trans ho.symm)]
    exact e3
  · rw [h1, e1] at hv; cases hv
theorem rd_nilSlice {W W' : World} {v : Value} {xs : List (List UInt8)} (h : RdS W v xs) (hv : v = .slice none 0 0) : RdS W' v xs := by
  obtain ⟨a, c, h1, h2, h3⟩ := h
  refine ⟨a, c, h1, h2, fun j x hj => ?_⟩
  obtain ⟨b', o, e1, _, _⟩ := h3 j x hj
  rw [h1, e1] at hv; cases hv
end Go.Proofs.YtopfkbpjfcdjnaaDoor
