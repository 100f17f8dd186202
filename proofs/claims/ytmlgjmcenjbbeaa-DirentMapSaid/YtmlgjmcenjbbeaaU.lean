/- The iterator over a block's entries (dirent.Entries). -/
import Derived.Test.YtmlgjmcenjbbeaaT
import Derived.RangeFuncNested
import Derived.RangeFuncBound
import Derived.RangeFuncCalls
import Derived.RangeFuncLeaves
import Derived.Shelf.Abstract
import Derived.Shelf.RegionOpen
import Derived.WalkKit
import Derived.OwnWalkIn
import Derived.TacticsInMore
import Derived.LoopNIn
import Derived.LoopIn
namespace Go.Proofs.Ytmlgjmcenjbbeaa
open Go.RowKit Go.Shelf
attribute [local go_sem] Oper.semAt_some
/-- The block whose number stands in a box. -/
def boxOwn (Bx : Nat) (W : World) : Option Nat := (W.cell? ⟨Bx, 0, none⟩).bind Value.ownBlock
/-- Cells lie as they lay, but the box and what the slice in the box holds. -/
structure KeepsBox (Bx : Nat) (W W' : World) : Prop where
  size : W.heap.size ≤ W'.heap.size
  own : boxOwn Bx W' = boxOwn Bx W ∨ ∀ g, boxOwn Bx W' = some g → W.heap.size ≤ g
  same : ∀ (k : Nat) (o : Obj), W.heap[k]? = some o → o.isCells = true → k ≠ Bx → boxOwn Bx W ≠ some k → W'.heap[k]? = some o
theorem KeepsBox.trans {Bx : Nat} {A B C : World} (h : KeepsBox Bx A B) (k : KeepsBox Bx B C) : KeepsBox Bx A C := by
  refine ⟨Nat.le_trans h.size k.size, ?_, fun i o hi hc hne how => ?_⟩
  · rcases k.own with e | hg
    · rw [e]; exact h.own
    · exact .inr fun g e => Nat.le_trans h.size (hg g e)
  · refine k.same i o (h.same i o hi hc hne how) hc hne ?_
    have hlt : i < A.heap.size := (Array.getElem?_eq_some_iff.1 hi).1
    rcases h.own with e | hg
    · rw [e]; exact how
    · intro e; have := hg i e; omega
theorem boxOwn_of {Bx : Nat} {W W' : World} (h : W'.heap[Bx]? = W.heap[Bx]?) : boxOwn Bx W' = boxOwn Bx W := by
  unfold boxOwn
  rw [World.cell?_of_block (w := W) (w' := W') (a := ⟨Bx, 0, none⟩) h]
theorem boxOwn_below {Bx : Nat} {W W' : World} (h : Below W.heap.size W W') (hB : Bx < W.heap.size) : boxOwn Bx W' = boxOwn Bx W := boxOwn_of (h.block Bx hB)
theorem KeepsBox.put {Bx : Nat} {W : World} {l : Nat} {o o' : Obj} (hl : W.heap[l]? = some o) (hc : o.isCells = false) (hne : l ≠ Bx) : KeepsBox Bx W (W.putObj l o') := by
  refine ⟨by simp [World.putObj], .inl (boxOwn_of (World.putObj_heap_other (by omega))), fun k o2 hk hc2 _ _ => ?_⟩
  have : k ≠ l := by rintro rfl; rw [hl] at hk; cases hk; rw [hc] at hc2; cases hc2
  rw [World.putObj_heap_other this]; exact hk
theorem below_keepsBox {Bx : Nat} {W W' : World} (h : Below W.heap.size W W') (hB : Bx < W.heap.size) : KeepsBox Bx W W' :=
  ⟨h.size, .inl (boxOwn_of (h.block Bx hB)), fun k _ hk _ _ _ => (h.block k (Array.getElem?_eq_some_iff.1 hk).1).trans hk⟩
/-- A slice that lies neither in the box nor in what the box holds reads on as it read. -/
theorem rdc_keepsBox {α : Type} {f : α → List Value} {k : Nat} (hf : ∀ x, (f x).length = k) (hk0 : 0 < k) {Bx : Nat} {W W' : World} {la : Option Addr} {n lc : Nat} {xs : List α} (h : RdC f k W (.slice la n lc) xs) (hk : KeepsBox Bx W W')
    (hb : ∀ b o, la = some ⟨b, o, none⟩ → b ≠ Bx ∧ boxOwn Bx W ≠ some b) : RdC f k W' (.slice la n lc) xs := by
  obtain ⟨a, c, h1, h2, h3⟩ := h
  cases h1
  refine ⟨_, _, rfl, h2, fun j x hj => ?_⟩
  obtain ⟨b', o, e1, e2, e3⟩ := h3 j x hj
  obtain ⟨hb1, hb2⟩ := hb b' o e1
  refine ⟨b', o, e1, Nat.lt_of_lt_of_le e2 hk.size, fun i u hu => ?_⟩
  have e4 := e3 i u hu
  have hlk : ∃ o : Obj, W.heap[b']? = some o ∧ o.isCells = true := by
    cases hh : W.heap[b']? with
    | none => simp [World.cell?, hh] at e4
    | some o => cases o <;> first | exact ⟨_, rfl, rfl⟩ | (simp [World.cell?, hh] at e4)
  obtain ⟨o2, ho, hc⟩ := hlk
  rw [World.cell?_of_block (w := W) (w' := W') (a := ⟨b', o + j * k + i, none⟩) ((hk.same b' o2 ho hc hb1 hb2).trans ho.symm)]
  exact e4
set_option maxRecDepth 100000 in
set_option maxHeartbeats 4000000 in
theorem ents1_in (n : Nat) (hn : 1 ≤ n) (l Bl Bx : Nat) (w0 : World) (rs : List Rec) (la : Option Addr) (lc : Nat) (h32 : rs.length ≤ 32) (hBx : Bx < w0.heap.size) (J Jx : List Ent → World → Prop) (hJ : ∀ pre W W', J pre W → Below W.heap.size W W' → J pre W')
    (hY : ∀ pre x W, J pre W → pre.length < 600 → YieldAt Fence.wide (n - 1) Try.prog l #[entV x] W fun e W' =>
      (e = .returned (.bool true) ∧ J (pre ++ [x]) W' ∧ KeepsBox Bx W W') ∨ (e = .returned (.bool false) ∧ Jx (pre ++ [x]) W'))
    (W : World) (hBl : W.cell? ⟨Bl, 0, none⟩ = some (.slice la rs.length lc)) (hW : Below w0.heap.size w0 W) (hrd : RdR W (.slice la rs.length lc) rs) (hla : ∀ b o, la = some ⟨b, o, none⟩ → b ≠ Bx ∧ boxOwn Bx W ≠ some b) (hla2 : ∀ b o, la = some ⟨b, o, none⟩ → b < w0.heap.size) (h0 : J [] W) :
    CallsIn Fence.wide n Try.prog 44 #[.func (.yield l) #[] #[], .pointer (some ⟨Bl, 0, none⟩)] W fun e W' => (∃ v, e = .returned v) ∧
      ((∃ ys, ys = Nm.entsOf rs ∧ J ys W') ∨ (∃ pre, pre <+: Nm.entsOf rs ∧ Jx pre W')) := by
  have hBW : Bx < W.heap.size := Nat.lt_of_lt_of_le hBx hW.size
  have hWs := hW.size
  replace hrd := Lib.hid hrd
  replace hla := Lib.hid hla
  replace hla2 := Lib.hid hla2
  replace h0 := Lib.hid h0
  replace hJ := Lib.hid hJ
  refine callsIn_of_wp Try.func44 rfl trivial ?_ rfl
  simp only [Try.ntmps44, List.size_toArray, List.length_cons, List.length_nil, Nat.reduceAdd, Nat.reduceSub, Array.replicate_succ, Array.replicate_zero, List.push_toArray, List.append_toArray, List.nil_append, List.cons_append]
  gi_wp2
  gi_loopw [7] (fun i wr => ∃ k : Nat, k ≤ rs.length ∧ i = .int .i64 k ∧ RdR wr (.slice la rs.length lc) rs ∧ W.heap.size ≤ wr.heap.size ∧ (∀ b o, la = some ⟨b, o, none⟩ → b ≠ Bx ∧ boxOwn Bx wr ≠ some b) ∧ J (Nm.entsOf (rs.take k)) wr)
    (fun i _ => rs.length - (intOf i).toNat)
  case atStart => exact ⟨0, Nat.zero_le _, rfl, hrd.out, Nat.le_refl _, hla.out, h0.out⟩
  case round =>
    obtain ⟨k, hk, rfl, hrk, hsz, hown, hJk⟩ := hrel
    replace hown := Lib.hid hown
    replace hJk := Lib.hid hJk
    by_cases hlt : k < rs.length
    · obtain ⟨bb, o, cc, hv, _, hbb, hcell⟩ := hrk.at (by intro e; rw [e] at hlt; simp at hlt)
      cases hv
      have hsn := Nm.entsOf_snoc (rs.take k) rs[k]
      rw [← List.take_succ_eq_append_getElem hlt] at hsn
      have hel := Nm.entsOf_len (rs.take k)
      rw [List.length_take] at hel
      have c0 := hcell k hlt 0
      have c1 := hcell k hlt 1
      have c2 := hcell k hlt 2
      have c3 := hcell k hlt 3
      have c4 := hcell k hlt 4
      clear hcell
      obtain ⟨q, hq⟩ : ∃ q, rs[k] = q := ⟨_, rfl⟩
      rw [hq] at c0 c1 c2 c3 c4 hsn
      obtain ⟨qa, ql, ⟨qn, qi, qk⟩⟩ := q
      replace c0 := c0 _ rfl
      replace c1 := c1 _ rfl
      replace c2 := c2 _ rfl
      replace c3 := c3 _ rfl
      replace c4 := c4 _ rfl
      dsimp only at c0 c1 c2 c3 c4
      replace c0 : wr.cell? ⟨bb, o + k * 5, none⟩ = _ := c0
      clear hq
      have hI0 : (0 : Int) ≤ (k : Int) := by omega
      have hI1 : (k : Int) < (rs.length : Int) := by omega
      have hal := (Below.refl wr.heap.size wr).alloc (Nat.le_refl _) (.cells #[.int .i64 qa, .int .i64 ql, .string (S qn), .int .i64 qi, .int .i64 qk] 69)
      have hrk2 := hrk.below hal
      have hbo2 : boxOwn Bx (wr.alloc (.cells #[.int .i64 qa, .int .i64 ql, .string (S qn), .int .i64 qi, .int .i64 qk] 69)) = boxOwn Bx wr := boxOwn_below hal (by omega)
      have hJ2 := hJ.out _ _ _ hJk.out hal
      replace hrk := Lib.hid hrk
      by_cases g : qi = 0
      · have z : (qi != 0) = false := by simpa using g
        have hsn' := Lib.hid (show Nm.entsOf (rs.take (k + 1)) = Nm.entsOf (rs.take k) by rw [hsn]; simp [Nm.isEnt, g])
        clear hsn g
        replace hal := Lib.hid hal
        replace hrk2 := Lib.hid hrk2
        replace hbo2 := Lib.hid hbo2
        replace hJ2 := Lib.hid hJ2
        gi_wp2
        refine ⟨(by intro f h; cases h), ?_⟩
        gi_wp2
        go_roundw
        case rel => exact ⟨k + 1, by omega, by go_num, hrk2.out, by rw [World.size_alloc]; omega, fun b o e => ⟨(hown.out b o e).1, by rw [hbo2.out]; exact (hown.out b o e).2⟩, by rw [hsn'.out]; exact hJ2.out⟩
        case measure => simp [intOf]; omega
      · have z : (qi != 0) = true := by simpa using g
        have hsn' := Lib.hid (show Nm.entsOf (rs.take (k + 1)) = Nm.entsOf (rs.take k) ++ [⟨qn, qi, qk⟩] by rw [hsn]; simp [Nm.isEnt, g])
        clear hsn g
        obtain ⟨fn, tmps, assign, body, hy, hR⟩ := hY (Nm.entsOf (rs.take k)) ⟨qn, qi, qk⟩ _ hJ2 (by omega)
        unfold entV at hy
        dsimp only at hy
        replace hal := Lib.hid hal
        replace hrk2 := Lib.hid hrk2
        replace hbo2 := Lib.hid hbo2
        replace hJ2 := Lib.hid hJ2
        gi_wp2
        refine hR.mono ?_
        rintro e W3 (⟨rfl, hJ3, hk3⟩ | ⟨rfl, hJx3⟩)
        · have g1 := rdc_keepsBox recL_len (by decide) hrk2.out hk3 (fun b o e => ⟨(hown.out b o e).1, by rw [hbo2.out]; exact (hown.out b o e).2⟩)
          have g2 := hk3.size
          rw [World.size_alloc] at g2
          have g3 : ∀ b o', (some ⟨bb, o, none⟩ : Option Addr) = some ⟨b, o', none⟩ → b ≠ Bx ∧ boxOwn Bx W3 ≠ some b := fun b o e => ⟨(hown.out b o e).1, by
            rcases hk3.own with e3 | hg
            · rw [e3, hbo2.out]; exact (hown.out b o e).2
            · intro e3
              have := hg b e3
              rw [World.size_alloc] at this
              have h2 := hla2.out b o e
              omega⟩
          replace g1 := Lib.hid g1
          replace g3 := Lib.hid g3
          gi_wp2
          go_roundw
          case rel => exact ⟨k + 1, by omega, by go_num, g1.out, by omega, g3.out, by rw [hsn'.out]; exact hJ3⟩
          case measure => simp [intOf]; omega
        · gi_wp2
          refine bodyPost_ret (results_none rfl _ _ _) rfl ?_
          exact ⟨⟨_, rfl⟩, .inr ⟨_, by rw [← hsn'.out]; exact (by unfold Nm.entsOf; exact ((List.take_prefix _ _).filter _).map _), hJx3⟩⟩
    · have hk' : k = rs.length := by omega
      subst hk'
      rw [List.take_length] at hJk
      replace hrk := Lib.hid hrk
      gi_wp2
      go_end0
      exact ⟨⟨_, rfl⟩, .inl ⟨_, rfl, hJk.out⟩⟩
end Go.Proofs.Ytmlgjmcenjbbeaa
