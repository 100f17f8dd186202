/- dirent.Find. -/
import Derived.Test.YtmlgjmcenjbbeaaV
namespace Go.Proofs.Ytmlgjmcenjbbeaa
open Go.RowKit Go.Shelf
attribute [local go_sem] Oper.semAt_some
namespace Nm
theorem findIn_snoc_no {l : List Ent} {n : List UInt8} {e : Ent} (h : findIn l n = none) (hc : (e.name == n) = false) : findIn (l ++ [e]) n = none := by
  unfold findIn at *
  rw [List.find?_append, h]
  simp [hc]
theorem findIn_snoc_yes {l : List Ent} {n : List UInt8} {e : Ent} (h : findIn l n = none) (hc : (e.name == n) = true) : findIn (l ++ [e]) n = some e := by
  unfold findIn at *
  rw [List.find?_append, h]
  simp [hc]
theorem findIn_prefix {l pre : List Ent} {n : List UInt8} {e : Ent} (hp : pre <+: l) (h : findIn pre n = some e) : findIn l n = some e := by
  obtain ⟨r, rfl⟩ := hp
  unfold findIn at *
  rw [List.find?_append, h]; rfl
end Nm
theorem res7 {W : World} {b c : Nat} {r : Ent} {is : Bool} (h : Box W b 24 #[.string (S r.name), .int .i64 r.ino, .int .i64 r.kind]) (hc : Boxed W c 4 (.bool is)) {tmps : Array Value} (h4 : tmps.getD 4 undef = .pointer (some ⟨b, 0, none⟩)) (h5 : tmps.getD 5 undef = .pointer (some ⟨c, 0, none⟩)) :
    (results Try.f7 tmps).run Try.prog W = .ok (.tuple #[entV r, .bool is]) W := by
  have d0 := h.get 0 _ rfl
  have d1 := h.get 1 _ rfl
  have d2 := h.get 2 _ rfl
  have d3 := hc.cell
  simp at h4 h5
  simp [results, Try.results7, go_sem, h4, h5, d0, d1, d2, d3, entV]
/-- Between two entries: none so far is it. -/
def FiI (w : World) (n : List UInt8) (pre : List Ent) (W : World) : Prop :=
  Boxed W w.heap.size 9 (.string (S n)) ∧ Box W (w.heap.size + 1) 24 #[.string ⟨#[]⟩, .int .i64 0, .int .i64 0] ∧ Boxed W (w.heap.size + 2) 4 (.bool false) ∧ Nm.findIn pre n = none ∧ Below w.heap.size w W
/-- It is found. -/
def FiX (w : World) (n : List UInt8) (c : Code) (pre : List Ent) (W : World) : Prop :=
  c = .ret ∧ ∃ e : Ent, Nm.findIn pre n = some e ∧ Box W (w.heap.size + 1) 24 #[.string (S e.name), .int .i64 e.ino, .int .i64 e.kind] ∧ Boxed W (w.heap.size + 2) 4 (.bool true) ∧ Below w.heap.size w W
theorem fiI_own (w : World) (n : List UInt8) (B : Nat) (hB : w.heap.size ≤ B) : OwnFrom B (FiI w n) := by
  rintro pre W W' row ⟨h1, h2, h3, h4, h7⟩ hg hr
  have hr' := fun r e => (hr r e).2
  exact ⟨boxed_walked h1 hg hr', box_walked h2 hg hr', boxed_walked h3 hg hr', h4, h7.grown hg h7.size (fun r e => Nat.le_trans hB (hr r e).1)⟩
theorem fiX_own (w : World) (n : List UInt8) (c : Code) (B : Nat) (hB : w.heap.size ≤ B) : OwnFrom B (FiX w n c) := by
  rintro pre W W' row ⟨h0, e, h1, h2, h3, h7⟩ hg hr
  have hr' := fun r e => (hr r e).2
  exact ⟨h0, e, h1, box_walked h2 hg hr', boxed_walked h3 hg hr', h7.grown hg h7.size (fun r e => Nat.le_trans hB (hr r e).1)⟩
set_option maxRecDepth 100000 in
set_option maxHeartbeats 4000000 in
theorem find_any (b n : List UInt8) (v : Value) (w : World) (hr : RdB w v b) : Calls Try.prog 7 #[v, .string (S n)] w (FindRes (Nm.findIn (Nm.ents b) n) w) := by
  refine (callsIn_wide (n := 3)).1 ?_
  obtain ⟨W0, hW0⟩ : ∃ W0, (((w.alloc (.cells #[.string (S n)] 9)).alloc (.cells #[.string ⟨#[]⟩, .int .i64 0, .int .i64 0] 24)).alloc (.cells #[.bool false] 4)) = W0 := ⟨_, rfl⟩
  have b0 : Boxed W0 w.heap.size 9 (.string (S n)) := by
    rw [← hW0]; exact ((Boxed.new w 9 (.string (S n))).alloc _).alloc _
  have b1 : Box W0 (w.heap.size + 1) 24 #[.string ⟨#[]⟩, .int .i64 0, .int .i64 0] := by
    have := (Box.new (w.alloc (.cells #[.string (S n)] 9)) 24 #[.string ⟨#[]⟩, .int .i64 0, .int .i64 0]).alloc (.cells #[.bool false] 4)
    rw [World.size_alloc, hW0] at this; exact this
  have b2 : Boxed W0 (w.heap.size + 2) 4 (.bool false) := by
    have := (Boxed.new ((w.alloc (.cells #[.string (S n)] 9)).alloc (.cells #[.string ⟨#[]⟩, .int .i64 0, .int .i64 0] 24)) 4 (.bool false))
    rw [World.size_alloc, World.size_alloc, hW0] at this; exact this
  have hBl : Below w.heap.size w W0 := by
    rw [← hW0]
    exact (((Below.refl _ w).alloc (Nat.le_refl _) _).alloc (by rw [World.size_alloc]; omega) _).alloc (by rw [World.size_alloc, World.size_alloc]; omega) _
  have h1 := entries_any b v W0 (hr.below hBl)
  have h32 := (Nm.recs_getD b).2
  obtain ⟨rs, hrs⟩ : ∃ rs, (Nm.recs b).getD [] = rs := ⟨_, rfl⟩
  have hents : Nm.ents b = Nm.entsOf rs := by unfold Nm.ents; rw [hrs]
  rw [hrs] at h1 h32
  rw [hents]
  clear hr hrs hents
  replace h1 := Lib.hid h1
  refine callsIn_of_wp_marks Try.func7 rfl trivial ?_ rfl
  simp only [Try.ntmps7, List.size_toArray, List.length_cons, List.length_nil, Nat.reduceAdd, Nat.reduceSub, Array.replicate_succ, Array.replicate_zero, List.push_toArray, List.append_toArray, List.nil_append, List.cons_append]
  gi_wp2_with (refine ⟨trivial, ?_⟩; gi_at_call 24; refine (callsIn_wide.2 h1.out).mono ?_; rintro e W1 ⟨Bl, la, lc, rfl, hBg, hbx, hrd, hla, hb1⟩)
  clear hW0
  have hlt2 : w.heap.size + 2 < W0.heap.size := b2.lt
  have c0 : Boxed W1 w.heap.size 9 (.string (S n)) := (hb1.block _ b0.lt).trans b0
  have c1 := b1.below hb1
  have c2 : Boxed W1 (w.heap.size + 2) 4 (.bool false) := (hb1.block _ b2.lt).trans b2
  have hB1 := hBl.trans (hb1.mono hBl.size)
  have hs1 := hb1.size
  have hlb := hbx.lt
  clear b0 b1 b2 hBl hb1
  have hsz := hB1.size
  refine wpIn_rangeFunc_ownH rfl (by decide) (gf := 44) (lb := #[.pointer (some ⟨Bl, 0, none⟩)]) rfl trivial (enters_of Try.func44 (by kernel_rfl) rfl)
    (ents_stops (3 - 1) (by decide) Bl w.heap.size rs la lc h32 W1 hlb (by omega) (hbx.cell 0) hrd (fun b o e => ⟨by have := hla b o e; omega, by rw [boxOwn_boxed c0]; simp [Value.ownBlock], by have := hla b o e; omega⟩)) (fun h k => KeepsBox.trans h k) (fun W l o o' hl h1 h2 _ => KeepsBox.put h1 h2 (by omega)) (Below.refl _ _) (fun _ => rfl)
    (FiI w n) (FiX w n) (fiI_own w n _ hsz) (fun c => fiX_own w n c _ hsz)
    ⟨c0, c1, c2, rfl, hB1⟩
    (fun x a' W => ∃ Be, Box W Be 24 #[.string (S x.name), .int .i64 x.ino, .int .i64 x.kind] ∧ w.heap.size + 3 ≤ Be ∧ a' = { tmps := #[v, .string (S n), undef, .pointer (some ⟨w.heap.size, 0, none⟩), .pointer (some ⟨w.heap.size + 1, 0, none⟩), .pointer (some ⟨w.heap.size + 2, 0, none⟩), .pointer (some ⟨Be, 0, none⟩), v, .func (.func 44) #[] #[.pointer (some ⟨Bl, 0, none⟩)], entV x, undef, undef, undef, undef, undef, undef], defers := [] })
    ?ax ?assign ?body ?done ?stop
  case ax =>
    rintro x a' _ W W' row ⟨Be, h1, h2, h3⟩ hg hr
    exact ⟨Be, box_walked h1 hg (fun r e => (hr r e).2), h2, h3⟩
  case assign =>
    rintro l pre x W K hI hK
    obtain ⟨xn, xi, xk⟩ := x
    unfold entV
    dsimp only
    gi_wp2
    have hI' := hI
    obtain ⟨g1, g2, g3, _, _⟩ := hI'
    have := g3.lt
    exact hK _ _ (KeepsFrom.of_grownBy (World.grownBy_alloc W _ none) (fun j e => by cases e)) (below_keepsBox ((Below.refl _ _).alloc (Nat.le_refl _) _) g1.lt) ((fiI_own w n w.heap.size (Nat.le_refl _)).alloc _ hI) ⟨W.heap.size, Box.new _ _ _, by omega, rfl⟩
  case body =>
    rintro l pre x a' W hl _ ⟨h1, h2, h3, h4, hB⟩ ⟨Be, he, hbe, rfl⟩ hlt
    obtain ⟨xn, xi, xk⟩ := x
    dsimp only at he
    have k1 := h1.cell
    have k3 := h3.cell
    have f3 := h3.frozen
    have d0 := he.get 0 _ rfl
    have d1 := he.get 1 _ rfl
    have d2 := he.get 2 _ rfl
    have e0 := h2.get 0 _ rfl
    have e1 := h2.get 1 _ rfl
    have e2 := h2.get 2 _ rfl
    have f2 := h2.frozen
    by_cases hx : (xn == n) = true
    · have hfy := Lib.hid (Nm.findIn_snoc_yes (e := ⟨xn, xi, xk⟩) h4 hx)
      have w2 : Box ((((W.setCell ⟨w.heap.size + 1, 0, none⟩ (.string (S xn))).setCell ⟨w.heap.size + 1, 1, none⟩ (.int .i64 xi)).setCell ⟨w.heap.size + 1, 2, none⟩ (.int .i64 xk)).setCell ⟨w.heap.size + 2, 0, none⟩ (.bool true)) (w.heap.size + 1) 24 #[.string (S xn), .int .i64 xi, .int .i64 xk] :=
        (((h2.set 0 (.string (S xn))).set 1 (.int .i64 xi)).set 2 (.int .i64 xk)).far _ _ (by show w.heap.size + 2 ≠ w.heap.size + 1; omega)
      have w3 : Box ((((W.setCell ⟨w.heap.size + 1, 0, none⟩ (.string (S xn))).setCell ⟨w.heap.size + 1, 1, none⟩ (.int .i64 xi)).setCell ⟨w.heap.size + 1, 2, none⟩ (.int .i64 xk)).setCell ⟨w.heap.size + 2, 0, none⟩ (.bool true)) (w.heap.size + 2) 4 #[.bool true] :=
        ((((show Box W (w.heap.size + 2) 4 #[.bool false] from h3).far ⟨w.heap.size + 1, 0, none⟩ (.string (S xn)) (by show w.heap.size + 1 ≠ w.heap.size + 2; omega)).far ⟨w.heap.size + 1, 1, none⟩ (.int .i64 xi) (by show w.heap.size + 1 ≠ w.heap.size + 2; omega)).far ⟨w.heap.size + 1, 2, none⟩ (.int .i64 xk) (by show w.heap.size + 1 ≠ w.heap.size + 2; omega)).set 0 (.bool true)
      have wB := (((hB.setCell (p := ⟨w.heap.size + 1, 0, none⟩) (by show w.heap.size ≤ w.heap.size + 1; omega) (.string (S xn))).setCell (p := ⟨w.heap.size + 1, 1, none⟩) (by show w.heap.size ≤ w.heap.size + 1; omega) (.int .i64 xi)).setCell (p := ⟨w.heap.size + 1, 2, none⟩) (by show w.heap.size ≤ w.heap.size + 1; omega) (.int .i64 xk)).setCell (p := ⟨w.heap.size + 2, 0, none⟩) (by show w.heap.size ≤ w.heap.size + 2; omega) (.bool true)
      have wK : KeepsFrom W1.heap.size W ((((W.setCell ⟨w.heap.size + 1, 0, none⟩ (.string (S xn))).setCell ⟨w.heap.size + 1, 1, none⟩ (.int .i64 xi)).setCell ⟨w.heap.size + 1, 2, none⟩ (.int .i64 xk)).setCell ⟨w.heap.size + 2, 0, none⟩ (.bool true)) :=
        ((((KeepsOthers.setCell _ _ _).trans (KeepsOthers.setCell _ _ _)).trans (KeepsOthers.setCell _ _ _)).trans (KeepsOthers.setCell _ _ _)).from _
      replace w2 := Lib.hid w2
      replace w3 := Lib.hid w3
      replace wB := Lib.hid wB
      replace wK := Lib.hid wK
      gi_wp2
      exact ⟨wK.out, rfl, ⟨xn, xi, xk⟩, hfy.out, w2.out, w3.out, wB.out⟩
    · rw [Bool.not_eq_true] at hx
      have hfn := Lib.hid (Nm.findIn_snoc_no (e := ⟨xn, xi, xk⟩) h4 hx)
      gi_wp2
      exact ⟨(KeepsOthers.refl W).from _, below_keepsBox (Below.refl _ _) h1.lt, h1, h2, h3, hfn.out, hB⟩
  case done =>
    rintro D ys W hD hys ⟨h1, h2, h3, h4, hB⟩ hK
    subst hys
    have k3 := h3.cell
    have f3 := h3.frozen
    have e0 := h2.get 0 _ rfl
    have e1 := h2.get 1 _ rfl
    have e2 := h2.get 2 _ rfl
    have f2 := h2.frozen
    have w2 : Box ((((W.setCell ⟨w.heap.size + 1, 0, none⟩ (.string ⟨#[]⟩)).setCell ⟨w.heap.size + 1, 1, none⟩ (.int .i64 0)).setCell ⟨w.heap.size + 1, 2, none⟩ (.int .i64 0)).setCell ⟨w.heap.size + 2, 0, none⟩ (.bool false)) (w.heap.size + 1) 24 #[.string ⟨#[]⟩, .int .i64 0, .int .i64 0] :=
      (((h2.set 0 (.string ⟨#[]⟩)).set 1 (.int .i64 0)).set 2 (.int .i64 0)).far _ _ (by show w.heap.size + 2 ≠ w.heap.size + 1; omega)
    have w3 : Box ((((W.setCell ⟨w.heap.size + 1, 0, none⟩ (.string ⟨#[]⟩)).setCell ⟨w.heap.size + 1, 1, none⟩ (.int .i64 0)).setCell ⟨w.heap.size + 1, 2, none⟩ (.int .i64 0)).setCell ⟨w.heap.size + 2, 0, none⟩ (.bool false)) (w.heap.size + 2) 4 #[.bool false] :=
      ((((show Box W (w.heap.size + 2) 4 #[.bool false] from h3).far ⟨w.heap.size + 1, 0, none⟩ (.string ⟨#[]⟩) (by show w.heap.size + 1 ≠ w.heap.size + 2; omega)).far ⟨w.heap.size + 1, 1, none⟩ (.int .i64 0) (by show w.heap.size + 1 ≠ w.heap.size + 2; omega)).far ⟨w.heap.size + 1, 2, none⟩ (.int .i64 0) (by show w.heap.size + 1 ≠ w.heap.size + 2; omega)).set 0 (.bool false)
    have wB := (((hB.setCell (p := ⟨w.heap.size + 1, 0, none⟩) (by show w.heap.size ≤ w.heap.size + 1; omega) (.string ⟨#[]⟩)).setCell (p := ⟨w.heap.size + 1, 1, none⟩) (by show w.heap.size ≤ w.heap.size + 1; omega) (.int .i64 0)).setCell (p := ⟨w.heap.size + 1, 2, none⟩) (by show w.heap.size ≤ w.heap.size + 1; omega) (.int .i64 0)).setCell (p := ⟨w.heap.size + 2, 0, none⟩) (by show w.heap.size ≤ w.heap.size + 2; omega) (.bool false)
    have wK : ((((W.setCell ⟨w.heap.size + 1, 0, none⟩ (.string ⟨#[]⟩)).setCell ⟨w.heap.size + 1, 1, none⟩ (.int .i64 0)).setCell ⟨w.heap.size + 1, 2, none⟩ (.int .i64 0)).setCell ⟨w.heap.size + 2, 0, none⟩ (.bool false)).heap[D]? = some (.deferred (some [])) := by
      rw [Below.heap_setCell _ _ _ D (by show D ≠ w.heap.size + 2; omega), Below.heap_setCell _ _ _ D (by show D ≠ w.heap.size + 1; omega), Below.heap_setCell _ _ _ D (by show D ≠ w.heap.size + 1; omega), Below.heap_setCell _ _ _ D (by show D ≠ w.heap.size + 1; omega)]
      exact hK
    have w4 := box_walked w2 (grownBy_putObj' _ D (.deferred none)) (fun r e => by cases e; exact ⟨_, wK, rfl⟩)
    have w5 := box_walked w3 (grownBy_putObj' _ D (.deferred none)) (fun r e => by cases e; exact ⟨_, wK, rfl⟩)
    have w6 := wB.trans (belowK_b (w := w) (Nat.le_refl _) _ D _ (.deferred none) (by omega) wK rfl rfl)
    replace w2 := Lib.hid w2
    replace w3 := Lib.hid w3
    replace wB := Lib.hid wB
    replace wK := Lib.hid wK
    replace w4 := Lib.hid w4
    replace w5 := Lib.hid w5
    replace w6 := Lib.hid w6
    gi_wp2
    refine ⟨by simp, .inl ⟨_, _, rfl, run_takeDeferred wK.out, ?_⟩⟩
    exact ⟨_, res7 (r := zeroEnt) (is := false) w4.out w5.out rfl rfl, findRes_none h4 w6.out⟩
  case stop =>
    rintro D c pre W hD hp ⟨rfl, e, h1, h2, h3, hB⟩ hK
    have hfy := Lib.hid (Nm.findIn_prefix hp h1)
    have w4 := box_walked h2 (grownBy_putObj' _ D (.deferred none)) (fun r e => by cases e; exact ⟨_, hK, rfl⟩)
    have w5 := boxed_walked h3 (grownBy_putObj' _ D (.deferred none)) (fun r e => by cases e; exact ⟨_, hK, rfl⟩)
    gi_wp2
    refine ⟨by simp, .inl ⟨_, _, rfl, run_takeDeferred hK, ?_⟩⟩
    exact ⟨_, res7 (r := e) (is := true) w4 w5 rfl rfl, findRes_some hfy.out (hB.trans (belowK_b (w := w) (Nat.le_refl _) W D _ (.deferred none) (by omega) hK rfl rfl))⟩
end Go.Proofs.Ytmlgjmcenjbbeaa
