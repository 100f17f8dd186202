/- A statement that draws its order, by an invariant: one step for each operation, whatever came ahead of it. -/
import Derived.RegionTactic
import Derived.WalkKit
namespace Go.Proofs.YtpoongljokbgcaaDoor
open Go.RowKit
section
variable {P : Program} {ops : Array Oper} {Q : Exit → Act → World → Prop} {md : Region.Mode}
def unl (l : List Bool) : Nat := (l.filter fun b => !b).length
theorem unl_set : ∀ (l : List Bool) (i : Nat), l[i]? = some false → unl (l.set i true) + 1 = unl l := by
  intro l
  induction l with
  | nil => intro i h; simp at h
  | cons b l ih =>
    intro i h
    cases i with
    | zero =>
      simp only [List.getElem?_cons_zero, Option.some.injEq] at h
      subst h
      simp [unl]
    | succ i =>
      simp only [List.getElem?_cons_succ] at h
      have := ih i h
      unfold unl at this ⊢
      cases b <;> simp <;> omega
theorem wpAny_inv {Inv : List Bool → Act → World → Prop} (hlen : ∀ l a w, Inv l a w → l.length = ops.size)
    (hstep : ∀ l a w, Inv l a w → ∀ i, i ∈ Region.ready md ops l.toArray → wpOp P ops Q i (Inv (l.set i true)) a w)
    (hend : ∀ l a w, Inv l a w → Region.ready md ops l.toArray = [] → Q .normal a w) :
    ∀ (fuel : Nat) (l : List Bool) (a : Act) (w : World), Inv l a w → unl l ≤ fuel → wpAny P md ops Q fuel l.toArray a w := by
  have hre : ∀ (l : List Bool) (i : Nat), l.length = ops.size → i ∈ Region.ready md ops l.toArray → l[i]? = some false := by
    intro l i hl h
    obtain ⟨h0, o, ho, _⟩ := mem_ready.1 h
    have hlt : i < ops.size := (Array.getElem?_eq_some_iff.1 ho).1
    have : i < l.length := by omega
    simp [this] at h0
    simp [this, h0]
  intro fuel
  induction fuel with
  | zero =>
    intro l a w h hf
    have hr : Region.ready md ops l.toArray = [] := by
      cases hr : Region.ready md ops l.toArray with
      | nil => rfl
      | cons i r =>
        have := unl_set l i (hre l i (hlen _ _ _ h) (by rw [hr]; exact List.mem_cons_self ..))
        omega
    exact ⟨hr, hend _ _ _ h hr⟩
  | succ fuel ih =>
    intro l a w h hf
    refine ⟨fun hr => hend _ _ _ h hr, fun i hi => ?_⟩
    have hu := unl_set l i (hre l i (hlen _ _ _ h) hi)
    refine wpOp_mono (fun a' w' h' => ?_) (hstep l a w h i hi)
    have := ih (l.set i true) a' w' h' (by omega)
    rw [List.setIfInBounds_toArray]
    exact this
theorem wp_region_inv {id : Nat} {a : Act} {w : World} (hm : P.follows .mixedOrders = true) {Inv : List Bool → Act → World → Prop} (hlen : ∀ l a w, Inv l a w → l.length = ops.size)
    (hstep : ∀ l a w, Inv l a w → ∀ i, i ∈ Region.ready .any ops l.toArray → wpOp P ops Q i (Inv (l.set i true)) a w)
    (hend : ∀ l a w, Inv l a w → Region.ready .any ops l.toArray = [] → Q .normal a w)
    (h0 : Inv (List.replicate ops.size false) a w.drew) : (Code.region id ops true).wp P Q a w := by
  refine wp_region_any hm ?_
  have := wpAny_inv (P := P) (Q := Q) hlen hstep hend ops.size (List.replicate ops.size false) a w.drew h0 (by unfold unl; simp)
  rw [List.toArray_replicate] at this
  exact this
end
end Go.Proofs.YtpoongljokbgcaaDoor
