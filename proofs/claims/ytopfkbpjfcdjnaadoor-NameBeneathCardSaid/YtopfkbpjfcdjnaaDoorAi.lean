/- The ways to a path, by the iterator (slipwaylaw21.ways). -/
import Derived.Test.YtopfkbpjfcdjnaaDoorAh
import Derived.Test.YtopfkbpjfcdjnaaDoorH
import Derived.Maps.AppendAt
import Derived.Maps.OwnIn
import Derived.BigRegionIn
namespace Go.Proofs.YtopfkbpjfcdjnaaDoor
open Go.RowKit Go.Shelf
attribute [local go_sem] Oper.semAt_some
theorem boxOwn_boxed {W : World} {B : Nat} {t : TypeId} {v : Value} (h : Boxed W B t v) : boxOwn B W = v.ownBlock := by
  unfold boxOwn; rw [h.cell]; rfl
/-- name.Ways hands back a value that gives the ways, or a part of them where a round has said 'no more'. -/
theorem ways_stops (n : Nat) (hn : 1 ≤ n) (Bn Bx : Nat) (p : List UInt8) (w : World) (hG : Gl w) (hBn : Bn < w.heap.size) (hBx : Bx < w.heap.size) (hBo : boxOwn Bx w = none) (hc : w.cell? ⟨Bn, 0, none⟩ = some (.string (S p))) :
    SeqStopsK Fence.wide n Tryd.prog 47 #[.pointer (some ⟨Bn, 0, none⟩)] (fun x : List UInt8 => #[Value.string (S x)]) (KeepsBox Bx) (fun ys => ys = Nm.ways p) (fun pre => pre <+: Nm.ways p) 600 w := fun
  l J Jx W hW hJ _ hY h0J => ways1_in n hn l Bn Bx w hG p hBx J Jx (fun pre W W' h hb => hJ pre W W' none h (grown_below hb) (fun r e => by cases e)) hY W ((hW.cell (p := ⟨Bn, 0, none⟩) hBn).trans hc) hW ((boxOwn_of (hW.block Bx hBx)).trans hBo) h0J
theorem waysF_in (n : Nat) (s : List UInt8) (w : World) :
    CallsIn Fence.wide n Tryd.prog 37 #[.string (S s)] w fun e w' => e = .returned (.func (.func 47) #[] #[.pointer (some ⟨w.heap.size, 0, none⟩)]) ∧ w' = w.alloc (.cells #[.string (S s)] 9) := by
  refine callsIn_of_wp Tryd.func37 rfl trivial ?_ rfl
  simp only [Tryd.ntmps37, List.size_toArray, List.length_cons, List.length_nil, Nat.reduceAdd, Nat.reduceSub, Array.replicate_succ, Array.replicate_zero, List.push_toArray, List.append_toArray, List.nil_append, List.cons_append]
  gi_wp2
  go_ret
  exact ⟨rfl, rfl⟩
theorem boxed_walked {W W' : World} {B : Nat} {t : TypeId} {v : Value} {row : Option Nat} (h : Boxed W B t v) (hg : W.grownBy W' row) (hr : ∀ r, row = some r → ∃ o : Obj, W.heap[r]? = some o ∧ o.isCells = false) : Boxed W' B t v :=
  h.kept hg fun e => by
    obtain ⟨o, ho, hc⟩ := hr B e.symm
    rw [show W.heap[B]? = _ from h] at ho; cases ho; cases hc
theorem own_walked {W W' : World} {B : Nat} {e : TypeId} {size n : Nat} {v : Value} {xs : List Value} {row : Option Nat} (h : W.ownsRow B e size v n xs) (hg : W.grownBy W' row) (hr : ∀ r, row = some r → ∃ o : Obj, W.heap[r]? = some o ∧ o.isCells = false) : W'.ownsRow B e size v n xs := by
  refine h.kept hg ?_
  rcases h.2 with ⟨rfl, _⟩ | ⟨g, cap, cur, rfl, _, hgb, _⟩
  · exact .inl rfl
  · refine .inr fun e' => ?_
    obtain ⟨_, ho, hc⟩ := hr g (by simpa [Value.ownBlock] using e'.symm)
    rw [hgb] at ho; cases ho; cases hc
/-- Cells that grow by an append, and the box that takes the new slice. -/
theorem keepsBox_push {W w1 : World} {Bx : Nat} {t : TypeId} {u v' : Value} {o : Obj} (hb : Boxed W Bx t u) (hb1 : Boxed w1 Bx t u) (hg : (W.alloc o).grownBy w1 u.ownBlock) (hv : v'.ownBlock = u.ownBlock ∨ v'.ownBlock = some (W.alloc o).heap.size) :
    KeepsBox Bx W (w1.setCell ⟨Bx, 0, none⟩ v') := by
  have hs : W.heap.size + 1 ≤ w1.heap.size := by have := hg.size; rw [World.size_alloc] at this; exact this
  refine ⟨by simp [World.setCell]; omega, ?_, fun k o' hk _ hne how => ?_⟩
  · rw [boxOwn_boxed (hb1.set v'), boxOwn_boxed hb]
    rcases hv with e | e
    · exact .inl e
    · refine .inr fun g hgg => ?_
      rw [e] at hgg; cases hgg
      rw [World.size_alloc]; omega
  · rw [boxOwn_boxed hb] at how
    have hlt : k < W.heap.size := (Array.getElem?_eq_some_iff.1 hk).1
    rw [Below.heap_setCell w1 _ v' k hne, hg.block k (by rw [World.size_alloc]; omega) (fun e => how e.symm), Below.heap_alloc W o k hlt]
    exact hk
/-- Between two ways: those so far. -/
def WyI (w : World) (pre : List (List UInt8)) (W : World) : Prop :=
  ∃ (ao : Option Addr) (cp : Nat), Boxed W (w.heap.size + 1) 22 (.slice ao pre.length cp) ∧ W.ownsRow w.heap.size 9 1 (.slice ao pre.length cp) pre.length (pre.map strV) ∧ Below w.heap.size w W
theorem wyI_own (w : World) (B : Nat) (hB : w.heap.size ≤ B) : OwnFrom B (WyI w) := by
  rintro pre W W' row ⟨ao, cp, h1, h2, h7⟩ hg hr
  have hr' := fun r e => (hr r e).2
  exact ⟨ao, cp, boxed_walked h1 hg hr', own_walked h2 hg hr', h7.grown hg h7.size (fun r e => Nat.le_trans hB (hr r e).1)⟩
/-- A list of texts of the call's own. -/
def OwnTexts (xs : List (List UInt8)) (w : World) (e : Ending) (w' : World) : Prop :=
  ∃ v, e = .returned v ∧ w'.ownsRow w.heap.size 9 1 v xs.length (xs.map strV) ∧ Below w.heap.size w w'
set_option maxRecDepth 100000 in
set_option maxHeartbeats 4000000 in
theorem ways_any (p : List UInt8) (w : World) (hG : Gl w) : Calls Tryd.prog 24 #[.string (S p)] w (OwnTexts (Nm.ways p) w) := by
  refine (callsIn_wide (n := 3)).1 ?_
  obtain ⟨i0, hi0, hz0, hz1, hz2⟩ := info_parts infoStr
  replace hG := Lib.hid hG
  have hfn : ∀ (a : Addr) (W : World), (binOp .eql 76 (.func (.func 47) #[] #[.pointer (some a)]) .nilFunc).run Tryd.prog W = .ok (.bool false) W := fun _ _ => by kernel_rfl
  refine callsIn_of_wp_marks Tryd.func24 rfl trivial ?_ rfl
  simp only [Tryd.ntmps24, List.size_toArray, List.length_cons, List.length_nil, Nat.reduceAdd, Nat.reduceSub, Array.replicate_succ, Array.replicate_zero, List.push_toArray, List.append_toArray, List.nil_append, List.cons_append]
  gi_wp2_with (refine ⟨trivial, ?_⟩; gi_at_call 37; refine (waysF_in 2 p _).mono ?_; rintro e w' ⟨rfl, rfl⟩)
  obtain ⟨W0, hW0⟩ : ∃ W0, ((w.alloc (.cells #[.string (S p)] 9)).alloc (.cells #[.slice none 0 0] 22)) = W0 := ⟨_, rfl⟩
  have b0 : Boxed W0 w.heap.size 9 (.string (S p)) := by
    rw [← hW0]; exact (Boxed.new w 9 (.string (S p))).alloc _
  have b1 : Boxed W0 (w.heap.size + 1) 22 (.slice none 0 0) := by
    have := (Boxed.new (w.alloc (.cells #[.string (S p)] 9)) 22 (.slice none 0 0))
    rw [World.size_alloc, hW0] at this; exact this
  have hBl : Below w.heap.size w W0 := by
    rw [← hW0]
    exact ((Below.refl _ w).alloc (Nat.le_refl _) _).alloc (by rw [World.size_alloc]; omega) _
  rw [hW0]
  clear hW0
  have hsz := hBl.size
  have hsz2 : w.heap.size + 2 ≤ W0.heap.size := b1.lt
  refine wpIn_rangeFunc_ownG rfl (by decide) (gf := 47) (lb := #[.pointer (some ⟨w.heap.size, 0, none⟩)]) rfl trivial (enters_of Tryd.func47 (by kernel_rfl) rfl)
    (ways_stops (3 - 1) (by decide) w.heap.size (w.heap.size + 1) p W0 (hG.out.below hBl) b0.lt b1.lt (by rw [boxOwn_boxed b1]; rfl) b0.cell) (fun h k => KeepsBox.trans h k) (fun W l o o' hl h1 h2 _ => KeepsBox.put h1 h2 (by omega)) (Below.refl _ _) (fun _ => rfl)
    (WyI w) (fun _ _ _ => False) (wyI_own w _ hsz) (fun _ _ _ _ _ hs _ _ => hs)
    ⟨none, 0, b1, World.ownsRow_nil _ _ _ _, hBl⟩
    (fun x => { tmps := #[.string (S p), undef, .slice none 0 0, .func (.func 47) #[] #[.pointer (some ⟨w.heap.size, 0, none⟩)], .pointer (some ⟨w.heap.size + 1, 0, none⟩), .string (S x), .string (S p),
      .func (.func 47) #[] #[.pointer (some ⟨w.heap.size, 0, none⟩)], .func (.func 47) #[] #[.pointer (some ⟨w.heap.size, 0, none⟩)], .bool false, .func (.func 47) #[] #[.pointer (some ⟨w.heap.size, 0, none⟩)], .string (S x), undef, undef, undef, undef, undef], defers := [] }) ?assign ?body ?done ?stop
  case assign =>
    intro l x W K hK
    gi_wp2
    exact hK
  case body =>
    rintro l pre x W ⟨ao, cp, h1, hown, hB⟩ hlt
    have hsW := hB.size
    have hcap : pre.length ≤ 600 := by omega
    clear hlt
    have k1 := h1.cell
    have hfin : ∀ (W' : World) (vg vc : Nat), Boxed W' (w.heap.size + 1) 22 (.slice (some ⟨vg, 0, none⟩) (pre.length + 1) vc) → W'.ownsRow w.heap.size 9 1 (.slice (some ⟨vg, 0, none⟩) (pre.length + 1) vc) (pre.length + 1) ((pre.map strV) ++ [.string (S x)]) →
        Below w.heap.size w W' → WyI w (pre ++ [x]) W' := by
      intro W' vg vc g1 g2 g5
      refine ⟨some ⟨vg, 0, none⟩, vc, by rw [List.length_append]; exact g1, ?_, g5⟩
      rw [List.length_append, List.map_append]; exact g2
    replace hfin := Lib.hid hfin
    replace hB := Lib.hid hB
    gi_wp2_with (gi_at_builtin; refine wpListIn_append_own_at (w := _) rfl _ _ 22 rfl w.heap.size 9 i0 (.string ⟨#[]⟩) 1 16 Tryd.underlying22 hi0 hz0 hz1 hz2 rfl (by decide) _ _ _ rfl (hown.alloc _) ⟨W.heap.size, 0, none⟩ 1 1 [.string (S x)] rfl rfl (cell_one_new _ _ _) (by simp [Value.oneCell']) (by unfold maxLen; omega) (by omega) (by simp; omega) ?_; intro v' w1 hown' hgrow _ hat; (obtain ⟨vg, vc, rfl⟩ := ownsRow_succ hown'); (obtain ⟨hv1, hv2, hr2, hk2, hb2⟩ := h1.appended (by decide) hown hsW (by omega) hown' hgrow); (have hc1 := hv1.cell); (have hf1 := hv1.frozen); (have hkb := Lib.hid (keepsBox_push h1 hv1 hgrow hat)))
    exact ⟨hk2.from _, hkb.out, hfin.out _ vg vc hv2 hr2 (hB.out.trans hb2)⟩
  case done =>
    rintro D ys W hD hys ⟨ao, cp, h1, hown, hB⟩ hK
    rw [hys] at hown h1
    have k1 := h1.cell
    replace hown := Lib.hid hown
    gi_wp2
    refine ⟨by simp, .inl ⟨_, _, rfl, run_takeDeferred hK, ?_⟩⟩
    exact ⟨_, results_tmp (fn := Tryd.f24) (t := 2) rfl _ _ _, _, rfl, own_walked hown.out (grownBy_putObj' _ D (.deferred none)) (fun r e => by cases e; exact ⟨_, hK, rfl⟩), hB.trans (belowK_b (w := w) (Nat.le_refl _) W D _ _ (by omega) hK rfl rfl)⟩
  case stop =>
    rintro D c pre W _ _ h _
    exact h.elim
end Go.Proofs.YtopfkbpjfcdjnaaDoor
