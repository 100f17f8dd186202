/- slices.Clone of any block; what Add and its like hand back, as it reads; a slice cut at its head. -/
import Derived.Test.YtmlgjmcenjbbeaaAn
namespace Go.Proofs.Ytmlgjmcenjbbeaa
open Go.RowKit
theorem append_nothing {P : Program} (W : World) (t ty e : TypeId) (i : TypeInfo) (ht : P.underlying t = some (.slice e)) (hi : P.info? e = some i) (v : Value) (a b : Option Addr) (c d : Nat) (hv : v = .slice a 0 c) :
    (Builtin.append_ #[t, t] ty #[v, .slice b 0 d]).run P W = .ok v W := by
  subst hv
  rcases a with _ | a <;> rcases b with _ | b <;> simp [Builtin.append_, run_underlying ht, sizeOf, typeInfo, hi, Builtin.lenOf, Builtin.firstCells, storeCells, loadCells, loadCellsFrom, Result.andThen]
theorem slice_any (la : Option Addr) (n lc k : Nat) (hk : k ≤ lc) (W : World) : (Instr.slice 27 (.slice la n lc) none (some (.int .i64 (k : Int))) none).run Try.prog W = .ok (.slice la k lc) W := by
  rw [run_slice_h W 27 la n lc (by kernel_rfl) .i64 k (by omega) (by omega)]
  rw [show (Go.sizeOf (Try.prog.elem 27)).run Try.prog W = .ok 3 W from by kernel_rfl]
  rcases la with _ | ⟨b, o, sp⟩ <;> simp [Result.andThen, sliced, Addr.add]
/-- A block that reads so, and a number. -/
def OutRd (bs : List UInt8) (n : Int) (w : World) (e : Ending) (w' : World) : Prop := ∃ u, e = .returned (.tuple #[u, .int .i64 n]) ∧ RdB w' u bs ∧ Below w.heap.size w w'
theorem outRes_rd {x : Option (List UInt8) × Int} {w : World} {e : Ending} {w' : World} (h : OutRes x w e w') : OutRd (x.1.getD []) x.2 w e w' := by
  obtain ⟨u, h1, h2, h3⟩ := h
  refine ⟨u, h1, ?_, h3⟩
  obtain ⟨o, n⟩ := x
  rcases o with _ | bs
  · have h2 : u = .slice none 0 0 := h2
    rw [h2]; exact Rd.nil _ _
  · obtain ⟨g, cap, rfl, _, ho⟩ := h2
    exact ho.rd
/-- A block that reads so. -/
def RdRes (bs : List UInt8) (w : World) (e : Ending) (w' : World) : Prop := ∃ u, e = .returned u ∧ RdB w' u bs ∧ Below w.heap.size w w'
set_option maxRecDepth 100000 in
set_option maxHeartbeats 4000000 in
theorem clone_rd (bs : List UInt8) (v : Value) (w : World) (hr : RdB w v bs) (hl : bs.length ≤ 1048576) : Calls Try.prog 28 #[v] w (RdRes bs w) := by
  obtain ⟨i0, hi0, hz0, hz1, hz2⟩ := info_parts infoByte
  obtain ⟨a, cap, hv⟩ := hr.len
  subst hv
  have hle : bs.length ≤ cap := by obtain ⟨_, _, h1, h2, _⟩ := hr; cases h1; exact h2
  have heq := fun W => Lib.run_eql_slice_nil (P := Try.prog) W 22 5 a bs.length cap 0 0 Try.underlying22
  rcases a with _ | a
  · have h0 : bs = [] := by
      rcases bs with _ | ⟨c, bs⟩
      · rfl
      · obtain ⟨b, o, c, hv, _⟩ := hr.at (by simp)
        cases hv
    subst h0
    simp only [List.length_nil] at heq ⊢
    replace hr := Lib.hid hr
    go_enter Try.func28, Try.ntmps28
    go_wp2_with fail
    go_ret
    exact ⟨_, rfl, Rd.nil _ _, Below.refl _ _⟩
  · have hB1 := (Below.refl _ w).alloc (Nat.le_refl _) (.cells #[] 5)
    have hr1 := hr.below hB1
    have ho : (w.alloc (.cells #[] 5)).ownsRow w.heap.size 5 1 (.slice (some ⟨w.heap.size, 0, none⟩) 0 0) 0 [] := ⟨rfl, .inr ⟨w.heap.size, 0, #[], rfl, Nat.le_refl _, heap_alloc_new w _, Nat.le_refl _, by unfold maxLen; omega, rfl, rfl⟩⟩
    by_cases hne : bs = []
    · subst hne
      simp only [List.length_nil] at heq ⊢
      have happ := fun ty => append_nothing (P := Try.prog) (w.alloc (.cells #[] 5)) 22 ty 5 i0 Try.underlying22 hi0 (.slice (some ⟨w.heap.size, 0, none⟩) 0 0) _ (some a) 0 cap rfl
      have hfin : RdB (w.alloc (.cells #[] 5)) (.slice (some ⟨w.heap.size, 0, none⟩) 0 0) [] := ⟨_, 0, rfl, Nat.le_refl _, fun j x h => by simp at h⟩
      replace hr1 := Lib.hid hr1
      replace ho := Lib.hid ho
      replace hfin := Lib.hid hfin
      replace hB1 := Lib.hid hB1
      clear hr
      go_enter Try.func28, Try.ntmps28
      go_wp2_with fail
      go_ret
      exact ⟨_, rfl, hfin.out, hB1.out⟩
    · have hfin : ∀ (v' : Value) (w2 : World), w2.ownsRow w.heap.size 5 1 v' bs.length (bs.map byteV) → (w.alloc (.cells #[] 5)).grownBy w2 (some w.heap.size) → RdRes bs w (.returned v') w2 := fun v' w2 h1 h2 => by
        obtain ⟨g, c, rfl, hg, hO⟩ := OwnB.of_own h1 hne
        exact ⟨_, rfl, hO.rd, hB1.grown h2 (by rw [World.size_alloc]; omega) (fun k e => by cases e; exact Nat.le_refl _)⟩
      replace hr1 := Lib.hid hr1
      replace ho := Lib.hid ho
      replace hfin := Lib.hid hfin
      replace hne := Lib.hid hne
      replace hl := Lib.hid hl
      clear hr hB1
      go_enter Try.func28, Try.ntmps28
      go_wp2_with (at_builtin; refine wpList_append_rdb rfl _ _ 22 rfl w.heap.size (by rw [World.size_alloc]; omega) 5 i0 (.int .u8 0) 1 Try.underlying22 hi0 hz0 hz1 hz2 rfl _ 0 [] rfl ho.out bs hne.out _ rfl hr1.out (by have := hl.out; unfold maxLen; omega) (by have := hl.out; omega) ?_; intro v' w2 ho2 hg2)
      rw [Nat.zero_add, List.nil_append] at ho2
      go_ret
      exact hfin.out v' w2 ho2 hg2
end Go.Proofs.Ytmlgjmcenjbbeaa
