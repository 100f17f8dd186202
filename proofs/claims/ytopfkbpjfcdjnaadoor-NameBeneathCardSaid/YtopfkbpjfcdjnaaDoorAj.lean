/- Is a path a directory's, or beneath it (name.Under). -/
import Derived.Test.YtopfkbpjfcdjnaaDoorAi
namespace Go.Proofs.YtopfkbpjfcdjnaaDoor
open Go.RowKit Go.Shelf
attribute [local go_sem] Oper.semAt_some
namespace Nm
def under (p d : List UInt8) : Bool := decide ((split d).2 = 0 ∧ d ∈ ways p)
end Nm
/-- Between two ways: none so far is the directory. -/
def UnI (w : World) (d : List UInt8) (pre : List (List UInt8)) (W : World) : Prop :=
  Boxed W w.heap.size 9 (.string (S d)) ∧ Boxed W (w.heap.size + 1) 4 (.bool false) ∧ d ∉ pre ∧ Below w.heap.size w W
/-- The directory is found. -/
def UnX (w : World) (d : List UInt8) (c : Code) (pre : List (List UInt8)) (W : World) : Prop :=
  c = .ret ∧ Boxed W (w.heap.size + 1) 4 (.bool true) ∧ d ∈ pre ∧ Below w.heap.size w W
theorem unI_own (w : World) (d : List UInt8) (B : Nat) (hB : w.heap.size ≤ B) : OwnFrom B (UnI w d) := by
  rintro pre W W' row ⟨h1, h2, h3, h7⟩ hg hr
  have hr' := fun r e => (hr r e).2
  exact ⟨boxed_walked h1 hg hr', boxed_walked h2 hg hr', h3, h7.grown hg h7.size (fun r e => Nat.le_trans hB (hr r e).1)⟩
theorem unX_own (w : World) (d : List UInt8) (c : Code) (B : Nat) (hB : w.heap.size ≤ B) : OwnFrom B (UnX w d c) := by
  rintro pre W W' row ⟨h0, h1, h3, h7⟩ hg hr
  have hr' := fun r e => (hr r e).2
  exact ⟨h0, boxed_walked h1 hg hr', h3, h7.grown hg h7.size (fun r e => Nat.le_trans hB (hr r e).1)⟩
theorem boxed_below {W W' : World} {B : Nat} {t : TypeId} {v : Value} (h : Boxed W B t v) (hb : Below W.heap.size W W') : Boxed W' B t v := (hb.block B h.lt).trans h
set_option maxRecDepth 100000 in
set_option maxHeartbeats 4000000 in
theorem under_any (p d : List UInt8) (w : World) (hG : Gl w) : Calls Tryd.prog 23 #[.string (S p), .string (S d)] w fun e w' => e = .returned (.bool (Nm.under p d)) ∧ Below w.heap.size w w' := by
  refine (callsIn_wide (n := 3)).1 ?_
  obtain ⟨W0, hW0⟩ : ∃ W0, ((w.alloc (.cells #[.string (S d)] 9)).alloc (.cells #[.bool false] 4)) = W0 := ⟨_, rfl⟩
  have b0 : Boxed W0 w.heap.size 9 (.string (S d)) := by
    rw [← hW0]; exact (Boxed.new w 9 (.string (S d))).alloc _
  have b1 : Boxed W0 (w.heap.size + 1) 4 (.bool false) := by
    have := (Boxed.new (w.alloc (.cells #[.string (S d)] 9)) 4 (.bool false))
    rw [World.size_alloc, hW0] at this; exact this
  have hBl : Below w.heap.size w W0 := by
    rw [← hW0]
    exact ((Below.refl _ w).alloc (Nat.le_refl _) _).alloc (by rw [World.size_alloc]; omega) _
  have hsp := Lib.hid (split_any d W0 (hG.below hBl))
  obtain ⟨⟨ds, m⟩, hds⟩ : ∃ r, Nm.split d = r := ⟨_, rfl⟩
  rw [hds] at hsp
  have hun := Lib.hid (show Nm.under p d = decide (m = 0 ∧ d ∈ Nm.ways p) by unfold Nm.under; rw [hds])
  replace hds := Lib.hid hds
  replace hG := Lib.hid hG
  have k0 := b0.cell
  refine callsIn_of_wp_marks Tryd.func23 rfl trivial ?_ rfl
  simp only [Tryd.ntmps23, List.size_toArray, List.length_cons, List.length_nil, Nat.reduceAdd, Nat.reduceSub, Array.replicate_succ, Array.replicate_zero, List.push_toArray, List.append_toArray, List.nil_append, List.cons_append]
  by_cases hm : m = 0
  case neg =>
    have hm1 : (m == 0) = false := by simpa using hm
    gi_wp2_with (refine ⟨trivial, ?_⟩; gi_at_call 20; refine (callsIn_wide.2 hsp.out).mono ?_; rintro e W1 ⟨v, rfl, hrd, hb1⟩; have k1 := (boxed_below b1 hb1).cell; have f1 := (boxed_below b1 hb1).frozen)
    have hBW := hBl.trans (hb1.mono hBl.size)
    have k9 := ((boxed_below b1 hb1).set (.bool false)).cell
    refine ⟨.bool false, by simp [results, Tryd.f23, go_sem, k9], ?_, hBW.setCell (p := ⟨w.heap.size + 1, 0, none⟩) (by show w.heap.size ≤ w.heap.size + 1; omega) _⟩
    rw [hun.out]
    simp [hm]
  subst hm
  gi_wp2_with (first | (refine ⟨trivial, ?_⟩; gi_at_call 20; refine (callsIn_wide.2 hsp.out).mono ?_; rintro e W1 ⟨v, rfl, hrd, hb1⟩) | (refine ⟨trivial, ?_⟩; gi_at_call 37; refine (waysF_in 2 p _).mono ?_; rintro e w' ⟨rfl, rfl⟩))
  have hBW := hBl.trans (hb1.mono hBl.size)
  have c0 := (boxed_below b0 hb1).alloc (.cells #[.string (S p)] 9)
  have c1 := (boxed_below b1 hb1).alloc (.cells #[.string (S p)] 9)
  have cp := Boxed.new W1 9 (.string (S p))
  have hBl2 := hBW.alloc hBW.size (.cells #[.string (S p)] 9)
  obtain ⟨Bn, hBn⟩ : ∃ Bn, W1.heap.size = Bn := ⟨_, rfl⟩
  rw [hBn] at cp ⊢
  obtain ⟨Wl, hWl⟩ : ∃ Wl, W1.alloc (.cells #[.string (S p)] 9) = Wl := ⟨_, rfl⟩
  rw [hWl] at c0 c1 cp hBl2 ⊢
  clear hWl hBn k0 hW0 b0 b1 hBl hb1 hBW hrd
  have hsz := hBl2.size
  have hlt1 := c1.lt
  refine wpIn_rangeFunc_ownG rfl (by decide) (gf := 47) (lb := #[.pointer (some ⟨Bn, 0, none⟩)]) rfl trivial (enters_of Tryd.func47 (by kernel_rfl) rfl)
    (ways_stops (3 - 1) (by decide) Bn (w.heap.size + 1) p Wl (hG.out.below hBl2) cp.lt c1.lt (by rw [boxOwn_boxed c1]; rfl) cp.cell) (fun h k => KeepsBox.trans h k) (fun W l o o' hl h1 h2 _ => KeepsBox.put h1 h2 (by omega)) (Below.refl _ _) (fun _ => rfl)
    (UnI w d) (UnX w d) (unI_own w d _ hsz) (fun c => unX_own w d c _ hsz)
    ⟨c0, c1, by simp, hBl2⟩
    (fun x => { tmps := #[.string (S p), .string (S d), undef, .pointer (some ⟨w.heap.size, 0, none⟩), .pointer (some ⟨w.heap.size + 1, 0, none⟩), v, .int .i64 0, .string (S x),
      .tuple #[v, .int .i64 0], .string (S d), .tuple #[v, .int .i64 0], v, .int .i64 0, .int .i64 0, .bool false, .string (S p), .func (.func 47) #[] #[.pointer (some ⟨Bn, 0, none⟩)], .string (S x), undef, undef, undef], defers := [] }) ?assign ?body ?done ?stop
  case assign =>
    intro l x W K hK
    gi_wp2
    exact hK
  case body =>
    rintro l pre x W ⟨h1, h2, h3, hB⟩ hlt
    have k0 := h1.cell
    have k1 := h2.cell
    have f1 := h2.frozen
    by_cases hx : x = d
    · subst hx
      gi_wp2
      exact ⟨(KeepsOthers.setCell _ _ _).from _, rfl, h2.set _, by simp, hB.setCell (p := ⟨w.heap.size + 1, 0, none⟩) (by show w.heap.size ≤ w.heap.size + 1; omega) _⟩
    · have hxb : (x == d) = false := by simpa using hx
      gi_wp2
      exact ⟨(KeepsOthers.refl W).from _, below_keepsBox (Below.refl _ _) h2.lt, h1, h2, by simp [h3]; exact fun e => hx e.symm, hB⟩
  case done =>
    rintro D ys W hD hys ⟨h1, h2, h3, hB⟩ hK
    have k1 := h2.cell
    have f1 := h2.frozen
    have hK2 : (W.setCell ⟨w.heap.size + 1, 0, none⟩ (.bool false)).heap[D]? = some (.deferred (some [])) := (Below.heap_setCell W _ _ D (by show D ≠ w.heap.size + 1; omega)).trans hK
    have k9 := (boxed_walked (h2.set (.bool false)) (grownBy_putObj' _ D (.deferred none)) (fun r e => by cases e; exact ⟨_, hK2, rfl⟩)).cell
    have hB2 := hB.setCell (p := ⟨w.heap.size + 1, 0, none⟩) (by show w.heap.size ≤ w.heap.size + 1; omega) (.bool false)
    gi_wp2
    refine ⟨by simp, .inl ⟨_, _, rfl, run_takeDeferred hK2, ?_⟩⟩
    refine ⟨.bool false, by simp [results, Tryd.f23, go_sem, k9], ?_, hB2.trans (belowK_b (w := w) (Nat.le_refl _) _ D _ _ (by omega) hK2 rfl rfl)⟩
    rw [hun.out, ← hys]
    simp [h3]
  case stop =>
    rintro D c pre W hD hp ⟨rfl, h2, h3, hB⟩ hK
    have k9 := (boxed_walked h2 (grownBy_putObj' _ D (.deferred none)) (fun r e => by cases e; exact ⟨_, hK, rfl⟩)).cell
    gi_wp2
    refine ⟨by simp, .inl ⟨_, _, rfl, run_takeDeferred hK, ?_⟩⟩
    refine ⟨.bool true, by simp [results, Tryd.f23, go_sem, k9], ?_, hB.trans (belowK_b (w := w) (Nat.le_refl _) _ D _ _ (by omega) hK rfl rfl)⟩
    rw [hun.out]
    obtain ⟨r, hr⟩ := hp
    have : d ∈ Nm.ways p := by rw [← hr]; simp [h3]
    simp [this]
end Go.Proofs.YtopfkbpjfcdjnaaDoor
