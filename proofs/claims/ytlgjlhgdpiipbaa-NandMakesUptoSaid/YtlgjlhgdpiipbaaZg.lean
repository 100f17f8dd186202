/- The law's pages: the walk. -/
import Derived.Test.YtlgjlhgdpiipbaaZf
namespace Go.Proofs.Ytlgjlhgdpiipbaa
open Go.RowKit Go.Shelf
attribute [local go_sem] Oper.semAt_some
theorem own_mono {W : World} {B B' : Nat} {e : TypeId} {size n : Nat} {v : Value} {xs : List Value} (h : W.ownsRow B e size v n xs) (hb : B' ≤ B) : W.ownsRow B' e size v n xs := by
  refine ⟨h.1, ?_⟩
  rcases h.2 with h0 | ⟨g, cap, cur, h1, h2, h3⟩
  · exact .inl h0
  · exact .inr ⟨g, cap, cur, h1, Nat.le_trans hb h2, h3⟩
/-- Numbers and pages, of the call's own. -/
def PgsRes (xs : List (List UInt8 × Nat)) (w : World) (e : Ending) (w' : World) : Prop :=
  ∃ ao cp bo cq, e = .returned (.tuple #[.slice ao xs.length cp, .slice bo xs.length cq]) ∧ w'.ownsRow w.heap.size 3 1 (.slice ao xs.length cp) xs.length (xs.map fun x => .int .i64 (x.2 : Nat)) ∧
    w'.ownsRow w.heap.size 48 288 (.slice bo xs.length cq) xs.length (xs.flatMap fun x => pgL x.1) ∧ Below w.heap.size w w'
theorem keepsFrom_below {B : Nat} {W W' : World} (h : Below W.heap.size W W') : KeepsFrom B W W' := ⟨h.size, fun k _ _ hk _ => (h.block k (Array.getElem?_eq_some_iff.1 hk).1).trans hk⟩
set_option maxRecDepth 100000 in
set_option maxHeartbeats 4000000 in
theorem pages21_any (Bl : Nat) (ps : List (List UInt8)) (la : Option Addr) (lc m : Nat) (h32 : ps.length ≤ 32) (w : World) (hbx : Box w Bl 56 #[.slice la ps.length lc]) (hrd : RdC pgL 288 w (.slice la ps.length lc) ps) (hla : ∀ b o, la = some ⟨b, o, none⟩ → b < w.heap.size) (hm : m ≤ 1000000) :
    Calls Try.prog 21 #[.func (.func 55) #[] #[.pointer (some ⟨Bl, 0, none⟩)], .int .i64 m] w (PgsRes (ps.zipIdx.take m) w) := by
  refine (callsIn_wide (n := 3)).1 ?_
  have hfn : ∀ (a : Addr) (W : World), (binOp .eql 60 (.func (.func 55) #[] #[.pointer (some a)]) .nilFunc).run Try.prog W = .ok (.bool false) W := fun _ _ => by kernel_rfl
  obtain ⟨W0, hW0⟩ : ∃ W0, ((w.alloc (.cells #[.int .i64 m] 3)).alloc (.cells #[.slice none 0 0] 24)).alloc (.cells #[.slice none 0 0] 56) = W0 := ⟨_, rfl⟩
  refine callsIn_of_wp_marks Try.func21 rfl trivial ?_ rfl
  simp only [Try.ntmps21, List.size_toArray, List.length_cons, List.length_nil, Nat.reduceAdd, Nat.reduceSub, Array.replicate_succ, Array.replicate_zero, List.push_toArray, List.append_toArray, List.nil_append, List.cons_append]
  have b0 : Box W0 w.heap.size 3 #[.int .i64 m] := by rw [← hW0]; exact ((Box.new w 3 #[.int .i64 m]).alloc _).alloc _
  have b1 : Box W0 (w.heap.size + 1) 24 #[.slice none 0 0] := by
    have := (Box.new (w.alloc (.cells #[.int .i64 m] 3)) 24 #[.slice none 0 0]).alloc (.cells #[.slice none 0 0] 56)
    rw [World.size_alloc, hW0] at this; exact this
  have b2 : Box W0 (w.heap.size + 2) 56 #[.slice none 0 0] := by
    have := Box.new ((w.alloc (.cells #[.int .i64 m] 3)).alloc (.cells #[.slice none 0 0] 24)) 56 #[.slice none 0 0]
    rw [World.size_alloc, World.size_alloc, hW0] at this; exact this
  have hBl : Below w.heap.size w W0 := by
    rw [← hW0]
    exact (((Below.refl _ w).alloc (Nat.le_refl _) _).alloc (by rw [World.size_alloc]; omega) _).alloc (by rw [World.size_alloc, World.size_alloc]; omega) _
  gi_wp2
  clear hW0
  have hsz := hBl.size
  have hsz3 : w.heap.size + 3 ≤ W0.heap.size := b2.lt
  have hlb := hbx.lt
  refine wpIn_rangeFunc_ownH rfl (by decide) (gf := 55) (lb := #[.pointer (some ⟨Bl, 0, none⟩)]) rfl trivial (enters_of Try.func55 (by kernel_rfl) rfl)
    (all_stops (3 - 1) (by decide) Bl w.heap.size ps la lc h32 W0 (by omega) ((hbx.below hBl).get 0 _ rfl) (hrd.below hBl) hla) (fun h k => KeepsLow.trans h k) (fun W l o o' hl h1 h2 _ => KeepsLow.put h1 h2) (Below.refl _ _) (fun _ => rfl)
    (PgI w m) (PgX w m) (pgI_own w m _ hsz) (fun c => pgX_own w m c _ hsz)
    ⟨none, 0, none, 0, b0, b1, b2, World.ownsRow_nil _ _ _ _, World.ownsRow_nil _ _ _ _, Nat.zero_le _, hBl, hsz3⟩
    (fun x a' W => ∃ Be, Box W Be 48 (cellsB (nrm x.1)) ∧ w.heap.size + 3 ≤ Be ∧ a' = { tmps := #[.func (.func 55) #[] #[.pointer (some ⟨Bl, 0, none⟩)], .int .i64 m, undef, .pointer (some ⟨w.heap.size, 0, none⟩), .slice none 0 0, .slice none 0 0, .pointer (some ⟨w.heap.size + 1, 0, none⟩), .pointer (some ⟨w.heap.size + 2, 0, none⟩), .int .i64 (x.2 : Nat), .pointer (some ⟨Be, 0, none⟩), .func (.func 55) #[] #[.pointer (some ⟨Bl, 0, none⟩)], .bool false, .func (.func 55) #[] #[.pointer (some ⟨Bl, 0, none⟩)], .int .i64 (x.2 : Nat), pgV (nrm x.1), undef, undef, undef, undef, undef, undef, undef, undef, undef, undef, undef, undef, undef, undef], defers := [] })
    ?ax ?assign ?body ?done ?stop
  case ax =>
    rintro x a' _ W W' row ⟨Be, h1, h2, h3⟩ hg hr
    exact ⟨Be, box_walked h1 hg (fun r e => (hr r e).2), h2, h3⟩
  case assign =>
    rintro l pre x W K hI hK
    obtain ⟨xl, xi⟩ := x
    dsimp only
    have bz := Box.new W 48 (cellsB (rep 288 0))
    obtain ⟨hst, by2, hg2⟩ := bz.storePg (l := nrm xl) (by rw [cellsB_size, rep_len]) (nrm_len _)
    have hal := ((Below.refl W.heap.size W).alloc (Nat.le_refl _) (.cells (cellsB (rep 288 0)) 48)).grown hg2 (by rw [World.size_alloc]; omega) (fun b e => by cases e; exact Nat.le_refl _)
    obtain ⟨W2, hW2⟩ : ∃ W2, (W.alloc (.cells (cellsB (rep 288 0)) 48)).setRow W.heap.size (cellsB (nrm xl)) = W2 := ⟨_, rfl⟩
    rw [hW2] at hst by2 hal
    have hz := zero48
    obtain ⟨ao, cp, bo, cq, hI'⟩ := hI
    have hfin := Lib.hid (hK · W2 (keepsFrom_below hal) (Go.Proofs.Ytlgjlhgdpiipbaa.Below.keepsLow hal) ⟨ao, cp, bo, cq, hI'.below hal⟩)
    have hs3 := hI'.size
    replace by2 := Lib.hid by2
    clear hK bz hg2 hal hW2 hI'
    unfold pgV at hst ⊢
    gi_wp2_with (refine wpListIn_store_var rfl 48 _ _ rfl _ rfl _ rfl hst ?_)
    exact hfin.out _ ⟨W.heap.size, by2.out, hs3, rfl⟩
  case body =>
    rintro l pre x a' W hl _ ⟨ao, cp, bo, cq, h⟩ ⟨Be, he, hbe, rfl⟩ hlt
    have k1 := h.nb.get 0 _ rfl
    have k3 := h.most.get 0 _ rfl
    by_cases hmx : pre.length = m
    · have t1 : ((pre.length : Int) ≥ (m : Int)) := by omega
      replace h := Lib.hid h
      replace hmx := Lib.hid hmx
      gi_wp2
      exact ⟨KeepsFrom.refl _ _, rfl, pre, ao, cp, bo, cq, List.prefix_append _ _, hmx.out, h.out⟩
    · have hle := h.le
      have t1 : ¬ ((pre.length : Int) ≥ (m : Int)) := by omega
      obtain ⟨va, vn, vc, w1, w2, hr1, x1, f1, hw2, l2, hld, vb, vm, vd, w3, w4, hr3, x3, f3, hw4, hS, hL, hF⟩ := h.round (by omega) (by omega) x Be he hbe
      have hnl := nrm_len x.1
      obtain ⟨p, hp⟩ : ∃ p, nrm x.1 = p := ⟨_, rfl⟩
      rw [hp] at hld hr3 hnl
      have hF' : KeepsFrom W0.heap.size W w4 := ⟨hF.size, fun k o hk => hF.same k o (by omega)⟩
      have hfin := Lib.hid (show KeepsFrom W0.heap.size W w4 ∧ KeepsLow w.heap.size W w4 ∧ PgI w m (pre ++ [x]) w4 from ⟨hF', hL, _, _, _, _, hS⟩)
      clear h he hS hL hF hF' hmx
      unfold pgV
      rw [hp]
      clear hp
      replace hr1 := Lib.hid hr1
      replace hr3 := Lib.hid hr3
      gi_wp2_with (first | (refine wpListIn_build_pg rfl _ rfl p rfl hnl ?_) | (refine wpListIn_load_var rfl 48 _ rfl _ rfl _ hld ?_) | (gi_at_builtin; refine wpListIn_append_run rfl _ _ 24 rfl _ _ rfl rfl _ hr1.out ?_) | (gi_at_builtin; refine wpListIn_append_run rfl _ _ 56 rfl _ _ rfl rfl _ hr3.out ?_))
      exact hfin.out
  case done =>
    rintro D ys W hD hys ⟨ao, cp, bo, cq, h⟩ hK
    subst hys
    have k1 := h.nb.get 0 _ rfl
    have k2 := h.lb.get 0 _ rfl
    have htk := Lib.hid (show ps.zipIdx.take m = ps.zipIdx from List.take_of_length_le h.le)
    replace h := Lib.hid (h.below ((Below.refl W.heap.size W).drew))
    gi_wp2_with gi_region
    refine ⟨by simp, .inl ⟨_, _, rfl, run_takeDeferred hK, ?_⟩⟩
    rw [htk.out]
    exact ⟨_, by simp [results, Try.results21, go_sem], ao, cp, bo, cq, rfl, own_walked (own_mono h.out.no (by omega)) (grownBy_putObj' W.drew D (.deferred none)) (fun r e => by cases e; exact ⟨_, (show W.drew.heap[D]? = _ from hK), rfl⟩), own_walked (own_mono h.out.lo (by omega)) (grownBy_putObj' W.drew D (.deferred none)) (fun r e => by cases e; exact ⟨_, (show W.drew.heap[D]? = _ from hK), rfl⟩), h.out.bel.trans (belowK_b (w := w) (Nat.le_refl _) W.drew D _ _ (by omega) (show W.drew.heap[D]? = _ from hK) rfl rfl)⟩
  case stop =>
    rintro D c pre W hD hp ⟨rfl, L, ao, cp, bo, cq, hL, hLm, h⟩ hK
    have k1 := h.nb.get 0 _ rfl
    have k2 := h.lb.get 0 _ rfl
    have htk := Lib.hid (show ps.zipIdx.take m = L from by rw [← hLm]; exact (List.prefix_iff_eq_take.1 (hL.trans hp)).symm)
    replace h := Lib.hid (h.below ((Below.refl W.heap.size W).drew))
    replace hLm := Lib.hid hLm
    gi_wp2_with gi_region
    refine ⟨by simp, .inl ⟨_, _, rfl, run_takeDeferred hK, ?_⟩⟩
    rw [htk.out]
    exact ⟨_, by simp [results, Try.results21, go_sem], ao, cp, bo, cq, rfl, own_walked (own_mono h.out.no (by omega)) (grownBy_putObj' W.drew D (.deferred none)) (fun r e => by cases e; exact ⟨_, (show W.drew.heap[D]? = _ from hK), rfl⟩), own_walked (own_mono h.out.lo (by omega)) (grownBy_putObj' W.drew D (.deferred none)) (fun r e => by cases e; exact ⟨_, (show W.drew.heap[D]? = _ from hK), rfl⟩), h.out.bel.trans (belowK_b (w := w) (Nat.le_refl _) W.drew D _ _ (by omega) (show W.drew.heap[D]? = _ from hK) rfl rfl)⟩
end Go.Proofs.Ytlgjlhgdpiipbaa
