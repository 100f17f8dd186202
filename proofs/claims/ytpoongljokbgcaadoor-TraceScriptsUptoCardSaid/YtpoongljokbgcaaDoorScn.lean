import Derived.Test.YtpoongljokbgcaaDoorScm
/- The statement's lines of a text, by the iterator (slipwaylaw27.lines). -/
namespace Go.Proofs.YtpoongljokbgcaaDoor
open Go.RowKit Go.Shelf
attribute [local go_sem] Oper.semAt_some
/-- Between two lines: those so far; the numbers are right, as far as these are the text's. -/
def LnI (w : World) (t : List UInt8) (pre : List Ln) (W : World) : Prop :=
  ∃ (ao : Option Addr) (cp : Nat) (b : Bool), Boxed W (w.heap.size + 1) 58 (.slice ao pre.length cp) ∧ W.ownsRow w.heap.size 9 1 (.slice ao pre.length cp) pre.length ((pre.map fun x => x.1.2).map strV) ∧
    Boxed W (w.heap.size + 1 + 1) 4 (.bool b) ∧ (pre.map Subtype.val <+: Tr.numb 1 (Tr.lns t) → b = true) ∧ Below w.heap.size w W
theorem own_walked {W W' : World} {B : Nat} {e : TypeId} {size n : Nat} {v : Value} {xs : List Value} {row : Option Nat} (h : W.ownsRow B e size v n xs) (hg : W.grownBy W' row) (hr : ∀ r, row = some r → ∃ o : Obj, W.heap[r]? = some o ∧ o.isCells = false) : W'.ownsRow B e size v n xs := by
  refine h.kept hg ?_
  rcases h.2 with ⟨rfl, _⟩ | ⟨g, cap, cur, rfl, _, hgb, _⟩
  · exact .inl rfl
  · refine .inr fun e' => ?_
    obtain ⟨_, ho, hc⟩ := hr g (by simpa [Value.ownBlock] using e'.symm)
    rw [hgb] at ho; cases ho; cases hc
theorem lnI_own (w : World) (t : List UInt8) (B : Nat) (hB : w.heap.size ≤ B) : OwnFrom B (LnI w t) := by
  rintro pre W W' row ⟨ao, cp, b, h1, h2, h3, h4, h7⟩ hg hr
  have hr' := fun r e => (hr r e).2
  exact ⟨ao, cp, b, boxed_walked h1 hg hr', own_walked h2 hg hr', boxed_walked h3 hg hr', h4, h7.grown hg h7.size (fun r e => Nat.le_trans hB (hr r e).1)⟩
/-- A list of texts of the call's own, and true. -/
def LinesOk (xs : List (List UInt8)) (w : World) (e : Ending) (w' : World) : Prop :=
  ∃ v, e = .returned (.tuple #[v, .bool true]) ∧ w'.ownsRow w.heap.size 9 1 v xs.length (xs.map strV) ∧ Below w.heap.size w w'
set_option maxRecDepth 100000 in
set_option maxHeartbeats 4000000 in
theorem lines_any (t : List UInt8) (w : World) (hG : Gl w) (ht : t.length ≤ 65536) :
    Calls Tryd.prog 33 #[.string (S t)] w (LinesOk (Tr.lns t) w) := by
  refine (callsIn_wide (n := 3)).1 ?_
  obtain ⟨i0, hi0, hz0, hz1, hz2⟩ := info_parts infoStr
  replace hG := Lib.hid hG
  have hfn : ∀ (a : Addr) (W : World), (binOp .eql 94 (.func (.func 76) #[] #[.pointer (some a)]) .nilFunc).run Tryd.prog W = .ok (.bool false) W := fun _ _ => by kernel_rfl
  refine callsIn_of_wp_marks Tryd.func33 rfl trivial ?_ rfl
  simp only [Tryd.ntmps33, List.size_toArray, List.length_cons, List.length_nil, Nat.reduceAdd, Nat.reduceSub, Array.replicate_succ, Array.replicate_zero, List.push_toArray, List.append_toArray, List.nil_append, List.cons_append]
  gi_wp2_with (refine ⟨trivial, ?_⟩; gi_at_call 55; refine (linesF_in 2 t _).mono ?_; rintro e w' ⟨rfl, rfl⟩)
  obtain ⟨W0, hW0⟩ : ∃ W0, (((w.alloc (.cells #[.string (S t)] 9)).alloc (.cells #[.slice none 0 0] 58)).alloc (.cells #[.bool true] 4)) = W0 := ⟨_, rfl⟩
  have b0 : Boxed W0 w.heap.size 9 (.string (S t)) := by
    rw [← hW0]; exact ((Boxed.new w 9 (.string (S t))).alloc _).alloc _
  have b1 : Boxed W0 (w.heap.size + 1) 58 (.slice none 0 0) := by
    have := (Boxed.new (w.alloc (.cells #[.string (S t)] 9)) 58 (.slice none 0 0)).alloc (.cells #[.bool true] 4)
    rw [World.size_alloc, hW0] at this; exact this
  have b2 : Boxed W0 (w.heap.size + 1 + 1) 4 (.bool true) := by
    have := Boxed.new ((w.alloc (.cells #[.string (S t)] 9)).alloc (.cells #[.slice none 0 0] 58)) 4 (.bool true)
    rw [World.size_alloc, World.size_alloc, hW0] at this; exact this
  have hBl : Below w.heap.size w W0 := by
    rw [← hW0]
    exact (((Below.refl _ w).alloc (Nat.le_refl _) _).alloc (by rw [World.size_alloc]; omega) _).alloc (by rw [World.size_alloc, World.size_alloc]; omega) _
  rw [hW0]
  clear hW0
  have hsz := hBl.size
  have hll := Tr.lns_len t.length t (Nat.le_refl _)
  refine wpIn_rangeFunc_ownG rfl (by decide) (gf := 76) (lb := #[.pointer (some ⟨w.heap.size, 0, none⟩)]) rfl trivial (enters_of Tryd.func76 (by kernel_rfl) rfl)
    (lines_stops (3 - 1) (by decide) w.heap.size w hG.out t ht W0 b0.lt hBl b0.cell) belowK_t (belowK_b hsz) (Below.refl _ _) (fun _ => rfl)
    (LnI w t) (fun _ _ _ => False) (lnI_own w t _ hsz) (fun _ _ _ _ _ hs _ _ => hs)
    ⟨none, 0, true, b1, World.ownsRow_nil _ _ _ _, b2, fun _ => rfl, hBl⟩
    (fun x => { tmps := #[.string (S t), undef, .slice none 0 0, .bool false, .func (.func 76) #[] #[.pointer (some ⟨w.heap.size, 0, none⟩)], .pointer (some ⟨w.heap.size + 1, 0, none⟩), .pointer (some ⟨w.heap.size + 1 + 1, 0, none⟩),
      .int .i64 x.1.1, .string (S x.1.2), .string (S t), .func (.func 76) #[] #[.pointer (some ⟨w.heap.size, 0, none⟩)], .func (.func 76) #[] #[.pointer (some ⟨w.heap.size, 0, none⟩)], .bool false, .func (.func 76) #[] #[.pointer (some ⟨w.heap.size, 0, none⟩)], .int .i64 x.1.1, .string (S x.1.2),
      undef, undef, undef, undef, undef, undef, undef, undef, undef, undef, undef, undef, undef], defers := [] }) ?assign ?body ?done ?stop
  case assign =>
    intro l x W K hK
    gi_wp2
    exact hK
  case body =>
    rintro l pre ⟨⟨n, x⟩, hxl⟩ W ⟨ao, cp, b, h1, hown, h2, hbp, hB⟩ hlt
    dsimp only at hxl ⊢
    have hsW := hB.size
    have hcap : pre.length ≤ 65536 := by omega
    clear hlt
    have hnn : ((pre ++ [(⟨(n, x), hxl⟩ : Ln)]).map Subtype.val <+: Tr.numb 1 (Tr.lns t)) → b = true ∧ (n : Int) = (pre.length : Int) + 1 := by
      rintro ⟨r, hr⟩
      rw [List.map_append, List.map_cons, List.map_nil, List.append_assoc] at hr
      have := Tr.numb_at 1 (Tr.lns t) (pre.map Subtype.val) (n, x) r (by rw [← hr]; rfl)
      rw [List.length_map] at this
      exact ⟨hbp (show pre.map Subtype.val <+: Tr.numb 1 (Tr.lns t) from ⟨_, hr⟩), by simp only at this; omega⟩
    replace hnn := Lib.hid hnn
    replace hbp := Lib.hid hbp
    have k1 := h1.cell
    have k2 := h2.cell
    have m2 := h2.frozen
    have hfin : ∀ (W' : World) (vg vc : Nat) (b' : Bool), Boxed W' (w.heap.size + 1) 58 (.slice (some ⟨vg, 0, none⟩) (pre.length + 1) vc) → W'.ownsRow w.heap.size 9 1 (.slice (some ⟨vg, 0, none⟩) (pre.length + 1) vc) (pre.length + 1) (((pre.map fun x => x.1.2).map strV) ++ [.string (S x)]) →
        Boxed W' (w.heap.size + 1 + 1) 4 (.bool b') → (b = true → (n : Int) = (pre.length : Int) + 1 → b' = true) → Below w.heap.size w W' → LnI w t (pre ++ [⟨(n, x), hxl⟩]) W' := by
      intro W' vg vc b' g1 g2 g3 g4 g5
      refine ⟨some ⟨vg, 0, none⟩, vc, b', by rw [List.length_append]; exact g1, ?_, g3, fun h => by obtain ⟨e1, e2⟩ := hnn.out h; exact g4 e1 e2, g5⟩
      rw [List.length_append, List.map_append, List.map_append]; exact g2
    replace hfin := Lib.hid hfin
    replace hB := Lib.hid hB
    have hdec : ∃ q : Bool, ((n : Int) == (pre.length : Int) + 1) = q := ⟨_, rfl⟩
    obtain ⟨q, hq⟩ := hdec
    cases b <;> cases q
    all_goals
      gi_wp2_with (gi_at_builtin; refine wpListIn_append_own _ rfl _ _ 58 rfl w.heap.size 9 i0 (.string ⟨#[]⟩) 1 16 Tryd.underlying58 hi0 hz0 hz1 hz2 rfl (by decide) _ _ _ rfl (hown.alloc _) ⟨W.heap.size, 0, none⟩ 1 1 [.string (S x)] rfl rfl (cell_one_new _ _ _) (by simp [Value.oneCell']) (by unfold maxLen; omega) (by omega) (by simp; omega) ?_; intro v' w1 hown' hgrow _; (obtain ⟨vg, vc, rfl⟩ := ownsRow_succ hown'); (obtain ⟨hv1, hv2, hr2, hk2, hb2⟩ := h1.appended (by decide) hown hsW (by omega) hown' hgrow); (have hc1 := hv1.cell); (have hf1 := hv1.frozen); (have g2 := ((h2.alloc (.cells #[.string (S x)] 9)).kept hgrow (Boxed.not_row (h2.alloc (.cells #[.string (S x)] 9)) (by decide) (hown.alloc _))).other (by omega : w.heap.size + 1 + 1 ≠ w.heap.size + 1) (.slice (some ⟨vg, 0, none⟩) (pre.length + 1) vc)); (have kc1 := hv2.cell); (have kg2 := g2.cell); (have mg2 := g2.frozen))
      have hW2 := (hB.out.trans hb2).setCell (p := ⟨w.heap.size + 1 + 1, 0, none⟩) (by show w.heap.size ≤ w.heap.size + 1 + 1; omega)
      have hWs := hb2.setCell (p := ⟨w.heap.size + 1 + 1, 0, none⟩) (by show w.heap.size ≤ w.heap.size + 1 + 1; omega)
      exact ⟨(hk2.trans (KeepsOthers.setCell _ _ _)).from _, hWs _, hfin.out _ vg vc _ (hv2.other (by omega) _) (hr2.kept (grownBy_setCell' _ _ _) (.inr (g2.not_row (by decide) hr2).symm)) (g2.set _) (by intro h1 h2; first | rfl | exact absurd h1 (by decide) | (rw [beq_eq_false_iff_ne] at hq; exact absurd h2 hq)) (hW2 _)⟩
  case done =>
    rintro D ys W hD hys ⟨ao, cp, b, h1, hown, h2, hbp, hB⟩ hK
    have hb1 : b = true := hbp (by rw [hys]; exact List.prefix_refl _)
    have hyl : (ys.map fun x => x.1.2) = Tr.lns t := by
      have e : (ys.map fun x => x.1.2) = ((ys.map Subtype.val).map Prod.snd) := by rw [List.map_map]; rfl
      rw [e, hys, Tr.numb_snd]
    have hyn : ys.length = (Tr.lns t).length := by rw [← hyl, List.length_map]
    rw [hyl, hyn] at hown
    rw [hyn] at h1
    subst hb1
    clear hbp hyl hyn hys
    have k1 := h1.cell
    have k2 := h2.cell
    replace hown := Lib.hid hown
    gi_wp2
    gi_region
    gi_wp2
    refine ⟨by simp, .inl ⟨_, _, rfl, run_takeDeferred (show (W.drew).heap[D]? = _ from hK), ?_⟩⟩
    exact ⟨_, results_tmp2 rfl _ _ _, _, rfl, own_walked (W := W.drew) hown.out (grownBy_putObj' _ D (.deferred none)) (fun r e => by cases e; exact ⟨_, hK, rfl⟩), hB.drew.trans (belowK_b (w := w) (Nat.le_refl _) W.drew D _ _ (by omega) hK rfl rfl)⟩
  case stop =>
    rintro D c pre W _ _ h _
    exact h.elim
end Go.Proofs.YtpoongljokbgcaaDoor
