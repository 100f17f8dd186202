import Derived.Test.YtlgjlhgdpiipbaaMax
import Derived.Test.YtlgjlhgdpiipbaaMaz
import Derived.Test.YtlgjlhgdpiipbaaMal
import Derived.Test.YtlgjlhgdpiipbaaMaw
import Derived.Deep.DeepCutAuto
/- NandMakes: the walk. -/
namespace Go.Proofs.Ytlgjlhgdpiipbaa
open Go.RowKit
theorem IntS.up {W W' : World} {B B' : Nat} {v : Value} {xs : List Int} (h : IntS W B v xs) (hb : Below B W W') (hB : B ≤ B') : IntS W' B' v xs := by
  obtain ⟨a, cap, h1, h2, h3⟩ := h.below hb
  exact ⟨a, cap, h1, h2, fun j x hx => by obtain ⟨b, o, k1, k2, k3⟩ := h3 j x hx; exact ⟨b, o, k1, Nat.lt_of_lt_of_le k2 hB, k3⟩⟩
theorem EvS.up {W W' : World} {v : Value} {evs : List Ev} (h : EvS W (fun b => b < W.heap.size) v evs) (hb : Below W.heap.size W W') : EvS W' (fun b => b < W'.heap.size) v evs :=
  (h.same ⟨fun b hx => hb.block b hx, hb.size⟩).mono (fun b hx => Nat.lt_of_lt_of_le hx hb.size)
set_option maxRecDepth 100000 in
set_option maxHeartbeats 16000000 in
theorem makes_any (bn pn : Int) (bad : List Int) (evs : List Ev) (bv ev : Value) (block : Int) (w : World) (hbad : IntS w w.heap.size bv bad) (hev : EvS w (fun b => b < w.heap.size) ev evs) (hbl : bad.length ≤ 9223372036854775807) (hle : evs.length ≤ 1048576) :
    Calls Try.prog 3 #[.agg #[.int .i64 bn, .int .i64 pn], bv, ev, .int .i64 block] w (fun e w' => e = .returned (.bool true) ∧ Below w.heap.size w w') := by
  have hb0 := (Below.refl w.heap.size w).alloc (Nat.le_refl _) (.cells #[.int .i64 bn, .int .i64 pn] 23)
  have bx0 := Box.new w 23 #[.int .i64 bn, .int .i64 pn]
  obtain ⟨W0, hW0⟩ : ∃ W0, w.alloc (.cells #[.int .i64 bn, .int .i64 pn] 23) = W0 := ⟨_, rfl⟩
  rw [hW0] at hb0 bx0
  have g0 := bx0.get 0 _ rfl
  have g1 := bx0.get 1 _ rfl
  have hbad0 := hbad.up hb0 hb0.size
  have hev0 := hev.up hb0
  have hnew := Lib.hid (has_new bn pn bad evs bv ev w W0 hb0 hbl hle hbad0 hev0)
  have herr := Lib.hid (fun e (h : newChip bn pn bad evs = .error e) => newChip_err h)
  obtain ⟨ba, bl, bc, rfl⟩ : ∃ a n c, bv = .slice a n c := by obtain ⟨a, c, h, _⟩ := hbad; exact ⟨_, _, _, h⟩
  obtain ⟨va, vn, vc, rfl⟩ : ∃ a n c, ev = .slice a n c := by obtain ⟨a, c, h, _⟩ := hev; exact ⟨_, _, _, h⟩
  replace hbad0 := Lib.hid hbad0
  replace hev0 := Lib.hid hev0
  replace hb0 := Lib.hid hb0
  replace bx0 := Lib.hid bx0
  clear hbad hev
  go_enter Try.func3, Try.ntmps3
  go_wp2_with fail
  clear g0 g1 hW0
  refine hnew.out.mono ?_
  rintro e w2 ⟨hb2, hr⟩
  have hrn := Lib.hid (rnew_any bn pn bad evs _ _ w2 hbl hle (hbad0.out.up hb2 hb2.size) (hev0.out.up hb2))
  have bx2 := bx0.out.below hb2
  have g0 := bx2.get 0 _ rfl
  have g1 := bx2.get 1 _ rfl
  replace hb2 := Lib.hid (hb0.out.trans (hb2.mono hb0.out.size))
  replace bx2 := Lib.hid bx2
  clear hnew hbad0 hev0 hb0 bx0
  unfold RNewRes at hrn
  obtain ⟨r, hr'⟩ : ∃ r, newChip bn pn bad evs = r := ⟨_, rfl⟩
  rw [hr'] at hr hrn herr
  rcases r with en | st
  · dsimp only at hr hrn
    cases hr
    have hne : (en != 0) = true := by simpa using herr.out _ rfl
    clear herr hr'
    go_wp2_with fail
    clear g0 g1
    refine hrn.out.mono ?_
    rintro e w3 ⟨rfl, hb3⟩
    have hb3' := Lib.hid (hb2.out.trans (hb3.mono hb2.out.size))
    have bx3 := Lib.hid (bx2.out.below hb3)
    clear hrn hb3 hb2 bx2
    go_wp2_with fail
    refine (begun_any _).mono ?_
    rintro e w4 ⟨rfl, hb4⟩
    have hb4' := Lib.hid (hb3'.out.trans (hb4.mono hb3'.out.size))
    have bx4 := bx3.out.below hb4
    clear hb4 hb3' bx3
    go_upto_region 5 with fail
    refine wp_region_noPanic ?_
    refine wp_region_held_drew (S := fun _ => True) (by kernel_rfl) (trivial) (fun hHeld => ?_)
    refine wpAnyH_take (i := 0) (v := ?_) rfl (by kernel_rfl) (by kernel_rfl) (by kernel_rfl) (fun _ _ _ h => h) (Or.inl ⟨rfl, ?_⟩) (by assumption) ?_
    rotate_left
    · intro W hSw
      (try dsimp only at hSw)
      go_simp
      try with_reducible rfl
    try simp only [List.getElem_toArray, List.getElem_cons_zero, List.getElem_cons_succ, Act.put, List.setIfInBounds_toArray, List.set_cons_zero, List.set_cons_succ]
    refine wpAnyH_take (i := 1) (v := ?_) rfl (by kernel_rfl) (by kernel_rfl) (by kernel_rfl) (fun _ _ _ h => h) (Or.inl ⟨rfl, ?_⟩) (by assumption) ?_
    rotate_left
    · intro W hSw
      (try dsimp only at hSw)
      go_simp
      try with_reducible rfl
    try simp only [List.getElem_toArray, List.getElem_cons_zero, List.getElem_cons_succ, Act.put, List.setIfInBounds_toArray, List.set_cons_zero, List.set_cons_succ]
    refine wpAnyH_take (i := 2) (v := ?_) rfl (by kernel_rfl) (by kernel_rfl) (by kernel_rfl) (fun _ _ _ h => h) (Or.inl ⟨rfl, ?_⟩) (by assumption) ?_
    rotate_left
    · intro W hSw
      (try dsimp only at hSw)
      go_simp
      try with_reducible rfl
    try simp only [List.getElem_toArray, List.getElem_cons_zero, List.getElem_cons_succ, Act.put, List.setIfInBounds_toArray, List.set_cons_zero, List.set_cons_succ]
    refine wpAnyH_take (i := 3) (v := undef) rfl (by kernel_rfl) (by kernel_rfl) (by kernel_rfl) (fun _ _ _ h => h) (Or.inr ⟨rfl, rfl⟩) (by assumption) ?_
    try simp only [List.getElem_toArray, List.getElem_cons_zero, List.getElem_cons_succ, Act.put, List.setIfInBounds_toArray, List.set_cons_zero, List.set_cons_succ]
    refine wpAnyH_take (i := 4) (v := undef) rfl (by kernel_rfl) (by kernel_rfl) (by kernel_rfl) (fun _ _ _ h => h) (Or.inr ⟨rfl, rfl⟩) (by assumption) ?_
    try simp only [List.getElem_toArray, List.getElem_cons_zero, List.getElem_cons_succ, Act.put, List.setIfInBounds_toArray, List.set_cons_zero, List.set_cons_succ]
    refine wpAnyH_take (i := 5) (v := undef) rfl (by kernel_rfl) (by kernel_rfl) (by kernel_rfl) (fun _ _ _ h => h) (Or.inr ⟨rfl, rfl⟩) (by assumption) ?_
    try simp only [List.getElem_toArray, List.getElem_cons_zero, List.getElem_cons_succ, Act.put, List.setIfInBounds_toArray, List.set_cons_zero, List.set_cons_succ]
    refine wpAnyH_take (i := 6) (v := undef) rfl (by kernel_rfl) (by kernel_rfl) (by kernel_rfl) (fun _ _ _ h => h) (Or.inr ⟨rfl, rfl⟩) (by assumption) ?_
    try simp only [List.getElem_toArray, List.getElem_cons_zero, List.getElem_cons_succ, Act.put, List.setIfInBounds_toArray, List.set_cons_zero, List.set_cons_succ]
    refine wpAnyH_take (i := 7) (v := undef) rfl (by kernel_rfl) (by kernel_rfl) (by kernel_rfl) (fun _ _ _ h => h) (Or.inr ⟨rfl, rfl⟩) (by assumption) ?_
    try simp only [List.getElem_toArray, List.getElem_cons_zero, List.getElem_cons_succ, Act.put, List.setIfInBounds_toArray, List.set_cons_zero, List.set_cons_succ]
    refine wpAnyH_take (i := 8) (v := undef) rfl (by kernel_rfl) (by kernel_rfl) (by kernel_rfl) (fun _ _ _ h => h) (Or.inr ⟨rfl, rfl⟩) (by assumption) ?_
    try simp only [List.getElem_toArray, List.getElem_cons_zero, List.getElem_cons_succ, Act.put, List.setIfInBounds_toArray, List.set_cons_zero, List.set_cons_succ]
    refine wpAnyH_take (i := 9) (v := undef) rfl (by kernel_rfl) (by kernel_rfl) (by kernel_rfl) (fun _ _ _ h => h) (Or.inr ⟨rfl, rfl⟩) (by assumption) ?_
    try simp only [List.getElem_toArray, List.getElem_cons_zero, List.getElem_cons_succ, Act.put, List.setIfInBounds_toArray, List.set_cons_zero, List.set_cons_succ]
    refine wpAnyH_take (i := 10) (v := undef) rfl (by kernel_rfl) (by kernel_rfl) (by kernel_rfl) (fun _ _ _ h => h) (Or.inr ⟨rfl, rfl⟩) (by assumption) ?_
    try simp only [List.getElem_toArray, List.getElem_cons_zero, List.getElem_cons_succ, Act.put, List.setIfInBounds_toArray, List.set_cons_zero, List.set_cons_succ]
    refine wpAnyH_take (i := 11) (v := undef) rfl (by kernel_rfl) (by kernel_rfl) (by kernel_rfl) (fun _ _ _ h => h) (Or.inr ⟨rfl, rfl⟩) (by assumption) ?_
    try simp only [List.getElem_toArray, List.getElem_cons_zero, List.getElem_cons_succ, Act.put, List.setIfInBounds_toArray, List.set_cons_zero, List.set_cons_succ]
    refine wpAnyH_take (i := 12) (v := undef) rfl (by kernel_rfl) (by kernel_rfl) (by kernel_rfl) (fun _ _ _ h => h) (Or.inr ⟨rfl, rfl⟩) (by assumption) ?_
    try simp only [List.getElem_toArray, List.getElem_cons_zero, List.getElem_cons_succ, Act.put, List.setIfInBounds_toArray, List.set_cons_zero, List.set_cons_succ]
    refine wpAnyH_take (i := 13) (v := undef) rfl (by kernel_rfl) (by kernel_rfl) (by kernel_rfl) (fun _ _ _ h => h) (Or.inr ⟨rfl, rfl⟩) (by assumption) ?_
    try simp only [List.getElem_toArray, List.getElem_cons_zero, List.getElem_cons_succ, Act.put, List.setIfInBounds_toArray, List.set_cons_zero, List.set_cons_succ]
    refine wpAnyH_take (i := 14) (v := undef) rfl (by kernel_rfl) (by kernel_rfl) (by kernel_rfl) (fun _ _ _ h => h) (Or.inr ⟨rfl, rfl⟩) (by assumption) ?_
    try simp only [List.getElem_toArray, List.getElem_cons_zero, List.getElem_cons_succ, Act.put, List.setIfInBounds_toArray, List.set_cons_zero, List.set_cons_succ]
    refine wpAnyH_take (i := 15) (v := undef) rfl (by kernel_rfl) (by kernel_rfl) (by kernel_rfl) (fun _ _ _ h => h) (Or.inr ⟨rfl, rfl⟩) (by assumption) ?_
    try simp only [List.getElem_toArray, List.getElem_cons_zero, List.getElem_cons_succ, Act.put, List.setIfInBounds_toArray, List.set_cons_zero, List.set_cons_succ]
    refine wpAnyH_take (i := 16) (v := undef) rfl (by kernel_rfl) (by kernel_rfl) (by kernel_rfl) (fun _ _ _ h => h) (Or.inr ⟨rfl, rfl⟩) (by assumption) ?_
    try simp only [List.getElem_toArray, List.getElem_cons_zero, List.getElem_cons_succ, Act.put, List.setIfInBounds_toArray, List.set_cons_zero, List.set_cons_succ]
    refine wpAnyH_take (i := 17) (v := undef) rfl (by kernel_rfl) (by kernel_rfl) (by kernel_rfl) (fun _ _ _ h => h) (Or.inr ⟨rfl, rfl⟩) (by assumption) ?_
    try simp only [List.getElem_toArray, List.getElem_cons_zero, List.getElem_cons_succ, Act.put, List.setIfInBounds_toArray, List.set_cons_zero, List.set_cons_succ]
    refine wpAnyH_take (i := 18) (v := ?_) rfl (by kernel_rfl) (by kernel_rfl) (by kernel_rfl) (fun _ _ _ h => h) (Or.inl ⟨rfl, ?_⟩) (by assumption) ?_
    rotate_left
    · intro W hSw
      (try dsimp only at hSw)
      go_simp
      try with_reducible rfl
    try simp only [List.getElem_toArray, List.getElem_cons_zero, List.getElem_cons_succ, Act.put, List.setIfInBounds_toArray, List.set_cons_zero, List.set_cons_succ]
    refine wpAnyH_take (i := 19) (v := ?_) rfl (by kernel_rfl) (by kernel_rfl) (by kernel_rfl) (fun _ _ _ h => h) (Or.inl ⟨rfl, ?_⟩) (by assumption) ?_
    rotate_left
    · intro W hSw
      (try dsimp only at hSw)
      go_simp
      try with_reducible rfl
    try simp only [List.getElem_toArray, List.getElem_cons_zero, List.getElem_cons_succ, Act.put, List.setIfInBounds_toArray, List.set_cons_zero, List.set_cons_succ]
    refine wpAnyH_done (by kernel_rfl) ?_ _
    (try dsimp only [NoPanic])
    go_wp2_with fail
    go_ret
    exact ⟨rfl, hb4'.out.drew⟩
  · dsimp only at hr hrn
    obtain ⟨c, rfl, hH⟩ := hr
    have hH2 := Lib.hid (hH (fun _ => False) (fun _ h => h.elim))
    obtain ⟨hg1, hg2, _⟩ := new_bn hr'
    subst hg1 hg2
    clear herr hr' hH
    go_wp2_with fail
    clear g0 g1
    refine hrn.out.mono ?_
    rintro e w3 ⟨r, Gm, Gr, L, rfl, hR, _, hb3⟩
    have hH3 := Lib.hid (hH2.out.below hb3)
    have hR3 := Lib.hid hR
    have bx3 := Lib.hid (bx2.out.below hb3)
    clear hrn hb3 hH2 hR bx2 hb2
    go_wp2_with fail
    refine (begun_any _).mono ?_
    rintro e w4 ⟨rfl, hb4⟩
    have hH4' := hH3.out.below hb4
    have hR4' := hR3.out.below hb4
    have bx4 := Lib.hid (bx3.out.below hb4)
    clear hb4 hH3 hR3 bx3
    have hB4 := (Below.refl w4.heap.size w4).drew
    have hH4 := hH4'.below hB4
    have hR4 := hR4'.below hB4
    have hS := Lib.hid (fun W (h : Below w4.heap.size w4 W) => show (fun W => W.cell? ⟨w.heap.size, 0, none⟩ = some (.int .i64 st.bn) ∧ W.cell? ⟨w.heap.size, 1, none⟩ = some (.int .i64 st.pn)) W from ⟨(bx4.out.below h).get 0 _ rfl, (bx4.out.below h).get 1 _ rfl⟩)
    clear bx4 hH4' hR4'
    go_upto_region 5 with fail
    refine wp_region_noPanic ?_
    refine wp_region_held_drew (S := fun W => W.cell? ⟨w.heap.size, 0, none⟩ = some (.int .i64 st.bn) ∧ W.cell? ⟨w.heap.size, 1, none⟩ = some (.int .i64 st.pn)) (by kernel_rfl) (hS.out _ hB4) (fun hHeld => ?_)
    refine wpAnyH_take (i := 0) (v := ?_) rfl (by kernel_rfl) (by kernel_rfl) (by kernel_rfl) (fun _ _ _ h => h) (Or.inl ⟨rfl, ?_⟩) (by assumption) ?_
    rotate_left
    · intro W hSw
      (try dsimp only at hSw)
      go_simp
      try with_reducible rfl
    try simp only [List.getElem_toArray, List.getElem_cons_zero, List.getElem_cons_succ, Act.put, List.setIfInBounds_toArray, List.set_cons_zero, List.set_cons_succ]
    refine wpAnyH_take (i := 1) (v := ?_) rfl (by kernel_rfl) (by kernel_rfl) (by kernel_rfl) (fun _ _ _ h => h) (Or.inl ⟨rfl, ?_⟩) (by assumption) ?_
    rotate_left
    · intro W hSw
      (try dsimp only at hSw)
      go_simp
      try with_reducible rfl
    try simp only [List.getElem_toArray, List.getElem_cons_zero, List.getElem_cons_succ, Act.put, List.setIfInBounds_toArray, List.set_cons_zero, List.set_cons_succ]
    refine wpAnyH_take (i := 2) (v := ?_) rfl (by kernel_rfl) (by kernel_rfl) (by kernel_rfl) (fun _ _ _ h => h) (Or.inl ⟨rfl, ?_⟩) (by assumption) ?_
    rotate_left
    · intro W hSw
      (try dsimp only at hSw)
      go_simp
      try with_reducible rfl
    try simp only [List.getElem_toArray, List.getElem_cons_zero, List.getElem_cons_succ, Act.put, List.setIfInBounds_toArray, List.set_cons_zero, List.set_cons_succ]
    refine wpAnyH_take (i := 3) (v := ?_) rfl (by kernel_rfl) (by kernel_rfl) (by kernel_rfl) (fun _ _ _ h => h) (Or.inl ⟨rfl, ?_⟩) (by assumption) ?_
    rotate_left
    · intro W hSw
      (try dsimp only at hSw)
      go_simp
      try with_reducible rfl
    try simp only [List.getElem_toArray, List.getElem_cons_zero, List.getElem_cons_succ, Act.put, List.setIfInBounds_toArray, List.set_cons_zero, List.set_cons_succ]
    refine wpAnyH_take (i := 5) (v := ?_) rfl (by kernel_rfl) (by kernel_rfl) (by kernel_rfl) (fun _ _ _ h => h) (Or.inl ⟨rfl, ?_⟩) (by assumption) ?_
    rotate_left
    · intro W hSw
      (try dsimp only at hSw)
      go_simp
      try with_reducible rfl
    try simp only [List.getElem_toArray, List.getElem_cons_zero, List.getElem_cons_succ, Act.put, List.setIfInBounds_toArray, List.set_cons_zero, List.set_cons_succ]
    refine wpAnyH_ready (rs := [4]) (by kernel_rfl) (by simp) (AllReadyH.cons rfl (fun K hK => ?_) AllReadyH.nil)
    go_simp
    refine (has_geo hH4).mono ?_
    rintro e w5 ⟨rfl, hb⟩
    have hB5 := hB4.trans (hb.mono hB4.size)
    have hH5 := hH4.below hb
    have hR5 := hR4.below hb
    clear hb
    refine hK.out _ _ (hS.out _ hB5) (fun hHeld => ?_)
    clear hK
    try simp only [List.getElem_toArray, List.getElem_cons_zero, List.getElem_cons_succ, Act.put, List.setIfInBounds_toArray, List.set_cons_zero, List.set_cons_succ]
    refine wpAnyH_take (i := 6) (v := ?_) rfl (by kernel_rfl) (by kernel_rfl) (by kernel_rfl) (fun _ _ _ h => h) (Or.inl ⟨rfl, ?_⟩) (by assumption) ?_
    rotate_left
    · intro W hSw
      (try dsimp only at hSw)
      go_simp
      try with_reducible rfl
    try simp only [List.getElem_toArray, List.getElem_cons_zero, List.getElem_cons_succ, Act.put, List.setIfInBounds_toArray, List.set_cons_zero, List.set_cons_succ]
    refine wpAnyH_take (i := 7) (v := ?_) rfl (by kernel_rfl) (by kernel_rfl) (by kernel_rfl) (fun _ _ _ h => h) (Or.inl ⟨rfl, ?_⟩) (by assumption) ?_
    rotate_left
    · intro W hSw
      (try dsimp only at hSw)
      go_simp
      try with_reducible rfl
    try simp only [List.getElem_toArray, List.getElem_cons_zero, List.getElem_cons_succ, Act.put, List.setIfInBounds_toArray, List.set_cons_zero, List.set_cons_succ]
    refine wpAnyH_take (i := 8) (v := ?_) rfl (by kernel_rfl) (by kernel_rfl) (by kernel_rfl) (fun _ _ _ h => h) (Or.inl ⟨rfl, ?_⟩) (by assumption) ?_
    rotate_left
    · intro W hSw
      (try dsimp only at hSw)
      go_simp
      try with_reducible rfl
    try simp only [List.getElem_toArray, List.getElem_cons_zero, List.getElem_cons_succ, Act.put, List.setIfInBounds_toArray, List.set_cons_zero, List.set_cons_succ]
    refine wpAnyH_take (i := 9) (v := ?_) rfl (by kernel_rfl) (by kernel_rfl) (by kernel_rfl) (fun _ _ _ h => h) (Or.inl ⟨rfl, ?_⟩) (by assumption) ?_
    rotate_left
    · intro W hSw
      (try dsimp only at hSw)
      go_simp
      try with_reducible rfl
    try simp only [List.getElem_toArray, List.getElem_cons_zero, List.getElem_cons_succ, Act.put, List.setIfInBounds_toArray, List.set_cons_zero, List.set_cons_succ]
    refine wpAnyH_take (i := 10) (v := ?_) rfl (by kernel_rfl) (by kernel_rfl) (by kernel_rfl) (fun _ _ _ h => h) (Or.inl ⟨rfl, ?_⟩) (by assumption) ?_
    rotate_left
    · intro W hSw
      (try dsimp only at hSw)
      go_simp
      try with_reducible rfl
    try simp only [List.getElem_toArray, List.getElem_cons_zero, List.getElem_cons_succ, Act.put, List.setIfInBounds_toArray, List.set_cons_zero, List.set_cons_succ]
    refine wpAnyH_ready (rs := [11]) (by kernel_rfl) (by simp) (AllReadyH.cons rfl (fun K hK => ?_) AllReadyH.nil)
    go_simp
    refine (same_any hH5 hR5 block).mono ?_
    rintro e w6 ⟨rfl, hb⟩
    have hB6 := hB5.trans (hb.mono hB5.size)
    have hH6 := hH5.below hb
    have hR6 := hR5.below hb
    clear hb
    refine hK.out _ _ (hS.out _ hB6) (fun hHeld => ?_)
    clear hK
    try simp only [List.getElem_toArray, List.getElem_cons_zero, List.getElem_cons_succ, Act.put, List.setIfInBounds_toArray, List.set_cons_zero, List.set_cons_succ]
    refine wpAnyH_take (i := 12) (v := ?_) rfl (by kernel_rfl) (by kernel_rfl) (by kernel_rfl) (fun _ _ _ h => h) (Or.inl ⟨rfl, ?_⟩) (by assumption) ?_
    rotate_left
    · intro W hSw
      (try dsimp only at hSw)
      go_simp
      try with_reducible rfl
    try simp only [List.getElem_toArray, List.getElem_cons_zero, List.getElem_cons_succ, Act.put, List.setIfInBounds_toArray, List.set_cons_zero, List.set_cons_succ]
    refine wpAnyH_take (i := 13) (v := ?_) rfl (by kernel_rfl) (by kernel_rfl) (by kernel_rfl) (fun _ _ _ h => h) (Or.inl ⟨rfl, ?_⟩) (by assumption) ?_
    rotate_left
    · intro W hSw
      (try dsimp only at hSw)
      go_simp
      try with_reducible rfl
    try simp only [List.getElem_toArray, List.getElem_cons_zero, List.getElem_cons_succ, Act.put, List.setIfInBounds_toArray, List.set_cons_zero, List.set_cons_succ]
    refine wpAnyH_take (i := 14) (v := ?_) rfl (by kernel_rfl) (by kernel_rfl) (by kernel_rfl) (fun _ _ _ h => h) (Or.inl ⟨rfl, ?_⟩) (by assumption) ?_
    rotate_left
    · intro W hSw
      (try dsimp only at hSw)
      go_simp
      try with_reducible rfl
    try simp only [List.getElem_toArray, List.getElem_cons_zero, List.getElem_cons_succ, Act.put, List.setIfInBounds_toArray, List.set_cons_zero, List.set_cons_succ]
    refine wpAnyH_take (i := 15) (v := ?_) rfl (by kernel_rfl) (by kernel_rfl) (by kernel_rfl) (fun _ _ _ h => h) (Or.inl ⟨rfl, ?_⟩) (by assumption) ?_
    rotate_left
    · intro W hSw
      (try dsimp only at hSw)
      go_simp
      try with_reducible rfl
    try simp only [List.getElem_toArray, List.getElem_cons_zero, List.getElem_cons_succ, Act.put, List.setIfInBounds_toArray, List.set_cons_zero, List.set_cons_succ]
    refine wpAnyH_ready (rs := [16]) (by kernel_rfl) (by simp) (AllReadyH.cons rfl (fun K hK => ?_) AllReadyH.nil)
    go_simp
    refine (same_any hH6 hR6 0).mono ?_
    rintro e w7 ⟨rfl, hb⟩
    have hB7 := hB6.trans (hb.mono hB6.size)
    have hH7 := hH6.below hb
    have hR7 := hR6.below hb
    clear hb
    refine hK.out _ _ (hS.out _ hB7) (fun hHeld => ?_)
    clear hK
    try simp only [List.getElem_toArray, List.getElem_cons_zero, List.getElem_cons_succ, Act.put, List.setIfInBounds_toArray, List.set_cons_zero, List.set_cons_succ]
    refine wpAnyH_take (i := 17) (v := ?_) rfl (by kernel_rfl) (by kernel_rfl) (by kernel_rfl) (fun _ _ _ h => h) (Or.inl ⟨rfl, ?_⟩) (by assumption) ?_
    rotate_left
    · intro W hSw
      (try dsimp only at hSw)
      go_simp
      try with_reducible rfl
    try simp only [List.getElem_toArray, List.getElem_cons_zero, List.getElem_cons_succ, Act.put, List.setIfInBounds_toArray, List.set_cons_zero, List.set_cons_succ]
    refine wpAnyH_take (i := 18) (v := ?_) rfl (by kernel_rfl) (by kernel_rfl) (by kernel_rfl) (fun _ _ _ h => h) (Or.inl ⟨rfl, ?_⟩) (by assumption) ?_
    rotate_left
    · intro W hSw
      (try dsimp only at hSw)
      go_simp
      try with_reducible rfl
    try simp only [List.getElem_toArray, List.getElem_cons_zero, List.getElem_cons_succ, Act.put, List.setIfInBounds_toArray, List.set_cons_zero, List.set_cons_succ]
    refine wpAnyH_take (i := 19) (v := ?_) rfl (by kernel_rfl) (by kernel_rfl) (by kernel_rfl) (fun _ _ _ h => h) (Or.inl ⟨rfl, ?_⟩) (by assumption) ?_
    rotate_left
    · intro W hSw
      (try dsimp only at hSw)
      go_simp
      try with_reducible rfl
    try simp only [List.getElem_toArray, List.getElem_cons_zero, List.getElem_cons_succ, Act.put, List.setIfInBounds_toArray, List.set_cons_zero, List.set_cons_succ]
    refine wpAnyH_done (by kernel_rfl) ?_ _
    (try dsimp only [NoPanic])
    go_wp2_with fail
    go_ret
    exact ⟨rfl, hH7.bel⟩
end Go.Proofs.Ytlgjlhgdpiipbaa
/- A law's chip and the reference's, side by side; a clone beside both. -/
namespace Go.Proofs.Ytlgjlhgdpiipbaa
open Go.RowKit
theorem nextEv_suf (st : Chip) : st.nextEv.2.evs <:+ st.evs := by
  rcases he : st.evs with _ | ⟨a, r⟩
  · rw [Chip.nextEv_nil he]; show st.evs <:+ []; rw [he]; exact List.suffix_refl _
  · by_cases ha : a.at_ = st.ops + 1
    · rw [Chip.nextEv_yes he ha]; exact List.suffix_cons a r
    · rw [Chip.nextEv_no he ha]; show st.evs <:+ _; rw [he]; exact List.suffix_refl _
theorem program_suf (st : Chip) (n p : Int) (pg : List UInt8) : (st.program n p pg).2.evs <:+ st.evs := by
  unfold Chip.program
  split
  · exact List.suffix_refl _
  · split
    · exact List.suffix_refl _
    · split
      · exact List.suffix_refl _
      · dsimp only
        rw [show ∀ s : Chip, (s.ends st.nextEv.1.kind).2.2.evs = s.evs from fun s => (ends_law s _).2.2.2.1]
        exact nextEv_suf st
theorem erase_suf (st : Chip) (n : Int) : (st.erase n).2.evs <:+ st.evs := by
  unfold Chip.erase
  split
  · exact List.suffix_refl _
  · split
    · exact List.suffix_refl _
    · split
      · rw [(judged_law _ _ _).2.2.2.2.2.2.1, (torn_law _ _ _).2.2.2.2.2.1, (worn_law _ _).2.2.2.2.2.1]
        exact nextEv_suf st
      · dsimp only
        rw [(cleared_law _ _).2.2.2.2.2.1, (worn_law _ _).2.2.2.2.2.1]
        exact nextEv_suf st
theorem does_suf (st : Chip) (o : Cl) : (st.does o).2.evs <:+ st.evs := by
  unfold Chip.does
  split
  · exact program_suf st _ _ _
  split
  · exact erase_suf st _
  split
  · exact List.suffix_refl _
  split <;> exact List.suffix_refl _
theorem fresh_evs {bn pn : Int} {bad : List Int} {evs : List Ev} {st : Chip} (h : newChip bn pn bad evs = .ok st) : st.evs = evs := by
  unfold newChip at h
  split at h
  · split at h
    · cases h
    · split at h
      · cases h; rfl
      · cases h
  · cases h
/-- A chip, the reference's chip, boxes Y of the law's own. -/
def Two (w W : World) (Y : Nat → Prop) (c r : Nat) (st su : Chip) : Prop :=
  ∃ Gm Gr L, Has w W (fun b => Gm b ∨ Gr b ∨ Y b) c st ∧ RefR W Gm Gr r su L ∧ (∀ b, Y b → ¬ Gm b ∧ ¬ Gr b) ∧ ∀ b, Gm b ∨ Gr b → w.heap.size ≤ b
section
variable {w W W' : World} {Y Y' : Nat → Prop} {c r : Nat} {st su : Chip}
theorem Two.bel (h : Two w W Y c r st su) : Below w.heap.size w W := by obtain ⟨_, _, _, h, _⟩ := h; exact h.bel
theorem Two.bnd (h : Two w W Y c r st su) : 0 < st.bn ∧ st.bn ≤ 256 ∧ 0 < st.pn ∧ st.pn ≤ 32 := by obtain ⟨_, _, _, h, _⟩ := h; exact h.bnd
theorem Two.add (h : Two w W Y c r st su) (hb : Below W.heap.size W W') (hY : ∀ b, Y' b → Y b ∨ (W.heap.size ≤ b ∧ b < W'.heap.size)) : Two w W' Y' c r st su := by
  obtain ⟨Gm, Gr, L, hH, hR, hd, hg⟩ := h
  refine ⟨Gm, Gr, L, hH.add hb (fun b hx => ?_), hR.below hb, fun b hy => ?_, hg⟩
  · rcases hx with hx | hx | hx
    · exact .inl (.inl hx)
    · exact .inl (.inr (.inl hx))
    · rcases hY b hx with h | h
      · exact .inl (.inr (.inr h))
      · exact .inr h
  · rcases hY b hy with h | h
    · exact hd b h
    · exact hR.new h.1
theorem Two.below (h : Two w W Y c r st su) (hb : Below W.heap.size W W') : Two w W' Y c r st su := h.add hb (fun _ hy => .inl hy)
theorem Two.ltY (h : Two w W Y c r st su) {b : Nat} (hy : Y b) : b < W.heap.size := by
  obtain ⟨Gm, Gr, L, ⟨Fm, Fr, Lc, hC, hge, hX, hw⟩, hR, hd, hg⟩ := h
  exact (hX b (.inr (.inr hy))).1
theorem two_does (h : Two w W Y c r st su) (hf : st.fits) (ho : st.ops < 1000000) (hwe : ∀ i, i < st.bn → 0 ≤ (st.blk i).look.wear ∧ (st.blk i).look.wear < 1000000) (o : Cl) :
    Calls Try.prog 17 #[.pointer (some ⟨c, 0, none⟩), clV o] W (fun e W' => e = .returned (.tuple #[pgV (st.does o).1.1, .int .i64 (st.does o).1.2]) ∧ Two w W' Y c r (st.does o).2 su ∧ Same Y W W') := by
  obtain ⟨Gm, Gr, L, hH, hR, hd, hg⟩ := h
  refine (has_does hH hf ho hwe o).mono ?_
  rintro e W' ⟨rfl, h1, h2⟩
  exact ⟨rfl, ⟨Gm, Gr, L, h1, hR.same ⟨fun b hb => h2.1 b (by rcases hb with hb | hb; exact .inl hb; exact .inr (.inl hb)), h2.2⟩, hd, hg⟩, ⟨fun b hb => h2.1 b (.inr (.inr hb)), h2.2⟩⟩
theorem two_must (h : Two w W Y c r st su) (hf : su.fits) (hks : su.kinds) (ho : su.ops < 1000000) (hwe : ∀ i, i < su.bn → 0 ≤ (su.blk i).look.wear ∧ (su.blk i).look.wear < 1000000) (o : Cl) :
    Calls Try.prog 28 #[.pointer (some ⟨r, 0, none⟩), clV o] W (fun e W' => e = .returned (.tuple #[pgV (su.does o).1.1, .int .i64 (su.does o).1.2]) ∧ Two w W' Y c r st (su.does o).2 ∧ Same Y W W') := by
  obtain ⟨Gm, Gr, L, ⟨Fm, Fr, Lc, hC, hge, hX, hw⟩, hR, hd, hg⟩ := h
  refine (must_any hR hf hks ho hwe o).mono ?_
  rintro e W' ⟨Gm', L', rfl, h1, h2, h3⟩
  have hlt := fun b => h1.ltm b
  have hltr := fun b => h1.ltr b
  refine ⟨rfl, ⟨Gm', Gr, L', ⟨Fm, Fr, Lc, hC.same (h2.same (fun b hb => ⟨by rcases hb with hb | hb; exact hC.ltm b hb; exact hC.ltr b hb, fun hG => by rcases hb with hb | hb; exact (hX b (.inl hG)).2.1 hb; exact (hX b (.inl hG)).2.2 hb⟩)), hge, fun b hb => ?_, hw.trans (h2.below (fun b hb => hg b (.inl hb)) hw.size)⟩, h1, fun b hy => ⟨fun hG => ?_, (hd b hy).2⟩, fun b hb => ?_⟩, h2.same (fun b hy => ⟨(hX b (.inr (.inr hy))).1, (hd b hy).1⟩)⟩
  · rcases hb with hb | hb | hb
    · rcases h3 b hb with h | h
      · exact ⟨hlt b hb, (hX b (.inl h)).2⟩
      · exact ⟨hlt b hb, hC.new h⟩
    · exact ⟨hltr b hb, (hX b (.inr (.inl hb))).2⟩
    · exact ⟨Nat.lt_of_lt_of_le (hX b (.inr (.inr hb))).1 h2.size, (hX b (.inr (.inr hb))).2⟩
  · rcases h3 b hG with h | h
    · exact (hd b hy).1 h
    · have := (hX b (.inr (.inr hy))).1; omega
  · rcases hb with hb | hb
    · rcases h3 b hb with h | h
      · exact hg b (.inl h)
      · exact Nat.le_trans hw.size h
    · exact hg b (.inr hb)
theorem two_same (h : Two w W Y c r st st) (n : Int) : Calls Try.prog 14 #[.pointer (some ⟨c, 0, none⟩), .pointer (some ⟨r, 0, none⟩), .int .i64 n] W (fun e w' => e = .returned (.bool true) ∧ Below W.heap.size W w') := by
  obtain ⟨Gm, Gr, L, hH, hR, hd, hg⟩ := h
  exact same_any hH hR n
end
/-- The old chip c, its clone d, the reference's. -/
def ThreeW (w W : World) (Y : Nat → Prop) (c d r : Nat) (sc sd su : Chip) (Fm Fr : Nat → Prop) (L : Lay) : Prop :=
  ChipR W Fm Fr c sc L ∧ (∀ b, Fm b → w.heap.size ≤ b ∧ ¬ Y b) ∧ ∃ Gm Gr Lr, RefR W Gm Gr r su Lr ∧ (∀ b, Gm b ∨ Gr b → ¬ Fm b) ∧ (∀ b, Y b → ¬ Gm b ∧ ¬ Gr b) ∧ (∀ b, Gm b ∨ Gr b → w.heap.size ≤ b) ∧
    ∃ Fm' Fr' L', ChipR W Fm' Fr' d sd L' ∧ (∀ b, Fm' b ∨ Fr' b → w.heap.size ≤ b ∧ ¬ Fm b) ∧ (∀ b, Gm b ∨ Gr b ∨ Y b → b < W.heap.size ∧ ¬ Fm' b ∧ ¬ Fr' b) ∧ Below w.heap.size w W
def Three (w W : World) (Y : Nat → Prop) (c d r : Nat) (sc sd su : Chip) : Prop := ∃ Fm Fr L, ThreeW w W Y c d r sc sd su Fm Fr L
section
variable {w W W' : World} {Y : Nat → Prop} {c d r : Nat} {st su sc sd : Chip}
theorem Three.two (h : Three w W Y c d r sc sd su) : Two w W Y d r sd su := by
  obtain ⟨Fm, Fr, L, h1, h2, Gm, Gr, Lr, h3, h4, h5, h6, Fm', Fr', L', h7, h8, h9, h10⟩ := h
  exact ⟨Gm, Gr, Lr, ⟨Fm', Fr', L', h7, fun b hb => (h8 b hb).1, h9, h10⟩, h3, h5, h6⟩
theorem Three.below (h : Three w W Y c d r sc sd su) (hb : Below W.heap.size W W') : Three w W' Y c d r sc sd su := by
  obtain ⟨Fm, Fr, L, h1, h2, Gm, Gr, Lr, h3, h4, h5, h6, Fm', Fr', L', h7, h8, h9, h10⟩ := h
  exact ⟨Fm, Fr, L, h1.below hb, h2, Gm, Gr, Lr, h3.below hb, h4, h5, h6, Fm', Fr', L', h7.below hb, h8, fun b hx => ⟨Nat.lt_of_lt_of_le (h9 b hx).1 hb.size, (h9 b hx).2⟩, h10.trans (hb.mono h10.size)⟩
theorem ThreeW.op {Fm Fr Fm2 : Nat → Prop} {L L2 : Lay} {sc2 : Chip} (h : ThreeW w W Y c d r sc sd su Fm Fr L) (k1 : ChipR W' Fm2 Fr c sc2 L2) (k2 : Kept Fm W W') (k3 : ∀ x, Fm2 x → Fm x ∨ W.heap.size ≤ x) : Three w W' Y c d r sc2 sd su ∧ Same Y W W' := by
  obtain ⟨h1, h2, Gm, Gr, Lr, h3, h4, h5, h6, Fm', Fr', L', h7, h8, h9, h10⟩ := h
  have hw := h10.size
  refine ⟨⟨Fm2, Fr, L2, k1, fun b hb => ?_, Gm, Gr, Lr, h3.same (k2.same (fun b hb => ⟨(h9 b (by rcases hb with hb | hb; exact .inl hb; exact .inr (.inl hb))).1, h4 b hb⟩)), fun b hb hf => ?_, h5, h6, Fm', Fr', L', h7.same (k2.same (fun b hb => ⟨by rcases hb with hb | hb; exact h7.ltm b hb; exact h7.ltr b hb, (h8 b hb).2⟩)), fun b hb => ⟨(h8 b hb).1, fun hf => ?_⟩, fun b hb => ⟨Nat.lt_of_lt_of_le (h9 b hb).1 k2.size, (h9 b hb).2⟩, h10.trans (k2.below (fun b hb => (h2 b hb).1) hw)⟩, k2.same (fun b hy => ⟨(h9 b (.inr (.inr hy))).1, fun hf => (h2 b hf).2 hy⟩)⟩
  · rcases k3 b hb with h | h
    · exact h2 b h
    · exact ⟨Nat.le_trans hw h, fun hy => by have := (h9 b (.inr (.inr hy))).1; omega⟩
  · rcases k3 b hf with h | h
    · exact h4 b hb h
    · have := (h9 b (by rcases hb with hb | hb; exact .inl hb; exact .inr (.inl hb))).1; omega
  · rcases k3 b hf with h | h
    · exact (h8 b hb).2 h
    · have : b < W.heap.size := by rcases hb with hb | hb; exact h7.ltm b hb; exact h7.ltr b hb
      omega
theorem two_clone (h : Two w W Y c r st su) (hl : st.evs.length ≤ 1048576) : Calls Try.prog 25 #[.pointer (some ⟨c, 0, none⟩)] W (fun e W' => ∃ d, e = .returned (.pointer (some ⟨d, 0, none⟩)) ∧ Three w W' Y c d r st st su ∧ Same Y W W') := by
  obtain ⟨Gm, Gr, L, ⟨Fm, Fr, Lc, hC, hge, hX, hw⟩, hR, hd, hg⟩ := h
  refine (clone25_any hC hl).mono ?_
  rintro e W' ⟨d, Fm', Fr', L', rfl, k1, k2, k3, k4⟩
  refine ⟨d, rfl, ⟨Fm, Fr, Lc, hC.below k4, fun b hb => ⟨hge b (.inl hb), fun hy => (hX b (.inr (.inr hy))).2.1 hb⟩, Gm, Gr, L, hR.below k4, fun b hb => (hX b (by rcases hb with hb | hb; exact .inl hb; exact .inr (.inl hb))).2.1, hd, hg, Fm', Fr', L', k1, fun b hb => ?_, fun b hb => ⟨Nat.lt_of_lt_of_le (hX b hb).1 k4.size, fun hf => ?_, fun hf => ?_⟩, hw.trans (k4.mono hw.size)⟩, ⟨fun b hy => k4.block b (hX b (.inr (.inr hy))).1, k4.size⟩⟩
  · rcases hb with hb | hb
    · exact ⟨Nat.le_trans hw.size (k2 b hb), fun hf => by have := k2 b hb; have := hC.ltm b hf; omega⟩
    · rcases k3 b hb with h | h
      · exact ⟨hge b (.inr h), fun hf => hC.disj b hf h⟩
      · exact ⟨Nat.le_trans hw.size h, fun hf => by have := hC.ltm b hf; omega⟩
  · have := k2 b hf; have := (hX b hb).1; omega
  · rcases k3 b hf with h | h
    · exact (hX b hb).2.2 h
    · have := (hX b hb).1; omega
theorem three_erase (h : Three w W Y c d r sc sd su) (hf : sc.fits) (ho : sc.ops < 1000000) (hwe : ∀ i, i < sc.bn → 0 ≤ (sc.blk i).look.wear ∧ (sc.blk i).look.wear < 1000000) (n : Int) :
    Calls Try.prog 26 #[.pointer (some ⟨c, 0, none⟩), .int .i64 n] W (fun e W' => (∃ x, e = .returned (.int .i64 x)) ∧ Three w W' Y c d r (sc.erase n).2 sd su ∧ Same Y W W') := by
  obtain ⟨Fm, Fr, L, h⟩ := h
  refine (erase_any h.1 hf ho hwe n).mono ?_
  rintro e W' ⟨Fm2, L2, rfl, k1, k2, k3⟩
  exact ⟨⟨_, rfl⟩, h.op k1 k2 k3⟩
theorem three_program (h : Three w W Y c d r sc sd su) (hf : sc.fits) (ho : sc.ops < 1000000) (n page : Int) (pg : List UInt8) (hp : pg.length = 288) :
    Calls Try.prog 27 #[.pointer (some ⟨c, 0, none⟩), .int .i64 n, .int .i64 page, pgV pg] W (fun e W' => (∃ x, e = .returned (.int .i64 x)) ∧ Three w W' Y c d r (sc.program n page pg).2 sd su ∧ Same Y W W') := by
  obtain ⟨Fm, Fr, L, h⟩ := h
  refine (program_any h.1 hf ho n page pg hp).mono ?_
  rintro e W' ⟨Fm2, L2, rfl, k1, k2, k3⟩
  exact ⟨⟨_, rfl⟩, h.op k1 k2 k3⟩
end
end Go.Proofs.Ytlgjlhgdpiipbaa
/- NandDoes: the walk. -/
namespace Go.Proofs.Ytlgjlhgdpiipbaa
open Go.RowKit
theorem wpList_exec {P : Program} {ops : Array Oper} {rest : List Oper} {o : Oper} {a : Act} {w : World} {Q : Exit → Act → World → Prop} (hg : o.guard = none) (v : Value) (hl : (execOp a.eval o).run P w = .ok (.value v) w) (hK : wpList P ops Q rest (a.put o.dst v) w) : wpList P ops Q (o :: rest) a w := by
  refine wpList_plain hg fun K hK' => ?_
  unfold Oper.wp
  simp [hl, Result.andThen]
  exact hK' _ _ hK
theorem two_len {w W : World} {Y : Nat → Prop} {c r : Nat} {st su : Chip} (h : Two w W Y c r st su) (o : Cl) : (st.does o).1.1.length = 288 := by
  obtain ⟨_, _, _, ⟨_, _, _, hC, _⟩, _⟩ := h
  unfold Chip.does
  split
  · exact rep_len _ _
  split
  · exact rep_len _ _
  split
  · exact readAt_len hC _ _
  split <;> exact rep_len _ _
theorem good_lim {k : Int} {s : Chip} (h : s.Good k) (hk : k < 999999) : s.fits ∧ s.ops < 1000000 ∧ ∀ i, i < s.bn → 0 ≤ (s.blk i).look.wear ∧ (s.blk i).look.wear < 1000000 :=
  ⟨h.fits, by have := h.ops.2; omega, fun i hi => ⟨(h.wear i hi).1, by have := (h.wear i hi).2; omega⟩⟩
/-- A page laid into a new box. -/
theorem new_page {W : World} {l : List UInt8} (hl : l.length = 288) : (storeVar 48 ⟨W.heap.size, 0, none⟩ (pgV l)).run Try.prog (W.alloc (.cells (cellsB (rep 288 0)) 48)) = .ok () ((W.alloc (.cells (cellsB (rep 288 0)) 48)).setRow W.heap.size (cellsB l)) ∧
    Box ((W.alloc (.cells (cellsB (rep 288 0)) 48)).setRow W.heap.size (cellsB l)) W.heap.size 48 (cellsB l) ∧ Below W.heap.size W ((W.alloc (.cells (cellsB (rep 288 0)) 48)).setRow W.heap.size (cellsB l)) := by
  obtain ⟨hst, b1, hg1⟩ := (Box.new W 48 (cellsB (rep 288 0))).storePg (l := l) (by rw [cellsB_size, rep_len]) hl
  exact ⟨hst, b1, ((Below.refl W.heap.size W).alloc (Nat.le_refl _) (.cells (cellsB (rep 288 0)) 48)).grown hg1 (by rw [World.size_alloc]; omega) (fun b e => by cases e; exact Nat.le_refl _)⟩
set_option maxRecDepth 100000 in
set_option maxHeartbeats 16000000 in
theorem ndoes_any (bn pn : Int) (bad : List Int) (evs : List Ev) (cs : List Cl) (bv ev u : Value) (w : World) (hbad : IntS w w.heap.size bv bad) (hev : EvS w (fun b => b < w.heap.size) ev evs) (hu : RdC clL 5 w u cs) (hbl : bad.length ≤ 9223372036854775807) (hle : evs.length ≤ 1048576) :
    Calls Try.prog 8 #[.agg #[.int .i64 bn, .int .i64 pn], bv, ev, u] w (fun e w' => e = .returned (.bool true) ∧ Below w.heap.size w w') := by
  have hz := zero48
  obtain ⟨n, hn⟩ : ∃ n, cs.length = n := ⟨_, rfl⟩
  obtain ⟨ua, uc, rfl⟩ := hu.len
  rw [hn] at hu ⊢
  have hcap1 : n ≤ uc := by obtain ⟨_, _, h1, h2, _⟩ := hu; cases h1; rw [hn] at h2; exact h2
  obtain ⟨k1, hk1⟩ : ∃ kk, min n 200 = kk := ⟨_, rfl⟩
  have hmin1i := Lib.hid (show (if (200 : Int) < (n : Int) then (200 : Int) else (n : Int)) = (k1 : Int) by split <;> omega)
  have hsl1 := Lib.hid (fun W => slice37 ua n uc k1 (by omega) W)
  have hds1 := hu.take k1 (by omega)
  have hlen1 : (cs.take k1).length = k1 := by rw [List.length_take]; omega
  have hk200 : k1 ≤ 200 := by omega
  obtain ⟨ds, hds⟩ : ∃ ds, cs.take k1 = ds := ⟨_, rfl⟩
  rw [hds] at hds1 hlen1
  clear hds hu hk1 hcap1 hn
  replace hds1 := Lib.hid hds1
  replace hlen1 := Lib.hid hlen1
  have hb0 := (Below.refl w.heap.size w).alloc (Nat.le_refl _) (.cells #[.int .i64 bn, .int .i64 pn] 23)
  have bx0 := Box.new w 23 #[.int .i64 bn, .int .i64 pn]
  obtain ⟨W0, hW0⟩ : ∃ W0, w.alloc (.cells #[.int .i64 bn, .int .i64 pn] 23) = W0 := ⟨_, rfl⟩
  rw [hW0] at hb0 bx0
  have g0 := bx0.get 0 _ rfl
  have g1 := bx0.get 1 _ rfl
  have hbad0 := hbad.up hb0 hb0.size
  have hev0 := hev.up hb0
  have hnew := Lib.hid (has_new bn pn bad evs bv ev w W0 hb0 hbl hle hbad0 hev0)
  have herr := Lib.hid (fun e (h : newChip bn pn bad evs = .error e) => newChip_err h)
  obtain ⟨ba, bl, bc, rfl⟩ : ∃ a n c, bv = .slice a n c := by obtain ⟨a, c, h, _⟩ := hbad; exact ⟨_, _, _, h⟩
  obtain ⟨va, vn, vc, rfl⟩ : ∃ a n c, ev = .slice a n c := by obtain ⟨a, c, h, _⟩ := hev; exact ⟨_, _, _, h⟩
  replace hbad0 := Lib.hid hbad0
  replace hev0 := Lib.hid hev0
  replace hb0 := Lib.hid hb0
  replace bx0 := Lib.hid bx0
  clear hbad hev
  go_enter Try.func8, Try.ntmps8
  go_wp2_with fail
  clear g0 g1 hW0
  refine hnew.out.mono ?_
  rintro e w2 ⟨hb2, hr⟩
  have hrn := Lib.hid (rnew_any bn pn bad evs _ _ w2 hbl hle (hbad0.out.up hb2 hb2.size) (hev0.out.up hb2))
  have bx2 := bx0.out.below hb2
  have g0 := bx2.get 0 _ rfl
  have g1 := bx2.get 1 _ rfl
  have hw02 := bx0.out.lt
  have hw00 := Lib.hid hw02
  replace hw02 := Lib.hid (Nat.lt_of_lt_of_le hw02 hb2.size)
  replace hb2 := Lib.hid (hb0.out.trans (hb2.mono hb0.out.size))
  replace bx2 := Lib.hid bx2
  clear hnew hbad0 hev0 hb0 bx0
  unfold RNewRes at hrn
  obtain ⟨r, hr'⟩ : ∃ r, newChip bn pn bad evs = r := ⟨_, rfl⟩
  rw [hr'] at hr hrn herr
  rcases r with en | st
  · dsimp only at hr hrn
    cases hr
    have hne : (en != 0) = true := by simpa using herr.out _ rfl
    clear herr hr'
    go_wp2_with fail
    clear g0 g1
    refine hrn.out.mono ?_
    rintro e w3 ⟨rfl, hb3⟩
    have hb3' := Lib.hid (hb2.out.trans (hb3.mono hb2.out.size))
    clear hrn hb3 hb2 bx2
    go_wp2_with fail
    refine (begun_any _).mono ?_
    rintro e w4 ⟨rfl, hb4⟩
    have hb4' := Lib.hid (hb3'.out.trans (hb4.mono hb3'.out.size))
    clear hb4 hb3'
    go_wp2_with fail
    go_ret
    exact ⟨rfl, hb4'.out⟩
  · dsimp only at hr hrn
    obtain ⟨c0, rfl, hH⟩ := hr
    have hH2 := hH (fun b => b = w.heap.size) (fun b hb => by subst hb; exact hw00.out)
    have hgd := fresh_good hr'
    have hkd := fresh_kinds hr'
    have hve := fresh_evs hr'
    obtain ⟨hg1, hg2, _⟩ := new_bn hr'
    subst hg1 hg2
    replace hH2 := Lib.hid hH2
    clear herr hr' hH
    go_wp2_with fail
    clear g0 g1
    refine hrn.out.mono ?_
    rintro e w3 ⟨r, Gm, Gr, L, rfl, hR, hge, hb3⟩
    have hT : Two w w3 (fun b => b = w.heap.size) c0 r st st := by
      obtain ⟨Fm, Fr, Lc, hC, hgc, hX, hw⟩ := hH2.out
      refine ⟨Gm, Gr, L, ⟨Fm, Fr, Lc, hC.below hb3, hgc, fun b hb => ?_, hw.trans (hb3.mono hw.size)⟩, hR, fun b hb => ?_, fun b hb => Nat.le_trans hw.size (hge b hb)⟩
      · rcases hb with hb | hb | hb
        · exact ⟨hR.ltm b hb, hC.new (hge b (.inl hb))⟩
        · exact ⟨hR.ltr b hb, hC.new (hge b (.inr hb))⟩
        · exact ⟨Nat.lt_of_lt_of_le (hX b hb).1 hb3.size, (hX b hb).2⟩
      · subst hb
        have := hw02.out
        exact ⟨fun h => by have := hge _ (.inl h); omega, fun h => by have := hge _ (.inr h); omega⟩
    have bx3 := bx2.out.below hb3
    have hevl : st.evs.length ≤ 1048576 := by rw [hve]; exact hle
    replace hT := Lib.hid hT
    replace bx3 := Lib.hid bx3
    clear hrn hb3 hH2 hR bx2 hb2 hw02 hve hle hbl hge
    go_wp2_with fail
    refine (begun_any _).mono ?_
    rintro e w4 ⟨rfl, hb4⟩
    replace hT := Lib.hid (hT.out.below hb4)
    replace bx3 := Lib.hid (bx3.out.below hb4)
    clear hb4
    have hmin1' := hmin1i.out
    have hsl1' := hsl1.out
    replace hgd := Lib.hid hgd
    replace hkd := Lib.hid hkd
    replace hevl := Lib.hid hevl
    go_wp2_with fail
    clear hmin1' hsl1' hmin1i hsl1
    replace hlen1 := hlen1.out
    obtain ⟨bn, hbn⟩ : ∃ x, st.bn = x := ⟨_, rfl⟩
    obtain ⟨pn, hpn⟩ : ∃ x, st.pn = x := ⟨_, rfl⟩
    rw [hbn, hpn] at bx3
    go_loopw [57, 9] (fun x y wr => ∃ (k c : Nat) (s : Chip), k ≤ k1 ∧ x = .int .i64 k ∧ y = .pointer (some ⟨c, 0, none⟩) ∧ Two w wr (fun b => b = w.heap.size) c r s s ∧ Box wr w.heap.size 23 #[.int .i64 bn, .int .i64 pn] ∧ s.Good k ∧ s.kinds ∧ s.evs.length ≤ 1048576 ∧ s.bn = bn) (fun x _ _ => k1 - (intOf x).toNat)
    case atStart => exact ⟨0, c0, st, by omega, rfl, rfl, hT.out, bx3.out, hgd.out, hkd.out, hevl.out, hbn⟩
    case round =>
      clear hT bx3 hgd hkd hevl hbn hpn
      obtain ⟨k, c, s, hk, rfl, rfl, hT, bx, hgd, hkd, hevl, hbn⟩ := hrel
      by_cases hlt : k < k1
      · have hlt' : k < ds.length := by omega
        obtain ⟨bb, oo, cc, hv, _, hbb, hcell⟩ := (hds1.out.below hT.bel).at (by intro e; rw [e] at hlt'; simp at hlt')
        rw [hlen1] at hv
        cases hv
        have c0 := hcell k hlt' 0
        have c1 := hcell k hlt' 1
        have c2 := hcell k hlt' 2
        have c3 := hcell k hlt' 3
        have c4 := hcell k hlt' 4
        clear hcell
        obtain ⟨q, hq⟩ : ∃ q, ds[k] = q := ⟨_, rfl⟩
        rw [hq] at c0 c1 c2 c3 c4
        obtain ⟨qd, qb, qp, qn, qf⟩ := q
        replace c0 := c0 _ rfl
        replace c1 := c1 _ rfl
        replace c2 := c2 _ rfl
        replace c3 := c3 _ rfl
        replace c4 := c4 _ rfl
        dsimp only at c0 c1 c2 c3 c4
        replace c0 : wr.cell? ⟨bb, oo + k * 5, none⟩ = _ := c0
        have hI0 : (0 : Int) ≤ (k : Int) := by omega
        have hI1 : (k : Int) < (k1 : Int) := by omega
        have bq := Box.new wr 40 #[.int .i64 qd, .int .i64 qb, .int .i64 qp, .bool qn, .int .u8 qf.toNat]
        have hal := (Below.refl wr.heap.size wr).alloc (Nat.le_refl _) (.cells #[.int .i64 qd, .int .i64 qb, .int .i64 qp, .bool qn, .int .u8 qf.toNat] 40)
        have hwlt := hT.ltY rfl
        have hT1 := Lib.hid (hT.add (Y' := fun b => b = w.heap.size ∨ b = wr.heap.size) hal (fun b hb => by
          rcases hb with hb | hb
          · exact .inl hb
          · exact .inr ⟨by omega, by rw [World.size_alloc]; omega⟩))
        have bx1 := Lib.hid (bx.below hal)
        replace bq := Lib.hid bq
        obtain ⟨hfit, hops, hwear⟩ := good_lim hgd (by omega)
        have hgood1 := Lib.hid (fun (s' : Chip) (h : s'.Good (k + 1)) => (by exact_mod_cast h : s'.Good ((k + 1 : Nat) : Int)))
        replace hfit := Lib.hid hfit
        replace hwear := Lib.hid hwear
        replace hops := Lib.hid hops
        replace hgd := Lib.hid hgd
        replace hkd := Lib.hid hkd
        replace hevl := Lib.hid hevl
        replace hbn := Lib.hid hbn
        clear hT hal hq bx
        go_upto_region 10 with fail
        clear c0 c1 c2 c3 c4
        obtain ⟨W1, hW1⟩ : ∃ W, wr.alloc (.cells #[.int .i64 qd, .int .i64 qb, .int .i64 qp, .bool qn, .int .u8 qf.toNat] 40) = W := ⟨_, rfl⟩
        obtain ⟨B, hB⟩ : ∃ B, wr.heap.size = B := ⟨_, rfl⟩
        rw [hW1] at hT1 bx1 bq ⊢
        rw [hB] at hT1 bq ⊢
        clear hW1 hB hwlt
        have q0 := bq.out.get 0 _ rfl
        have q1 := bq.out.get 1 _ rfl
        have q2 := bq.out.get 2 _ rfl
        have q3 := bq.out.get 3 _ rfl
        have q4 := bq.out.get 4 _ rfl
        by_cases hqd : qd = 4
        · subst hqd
          have hcl := Lib.hid (two_clone hT1.out hevl.out)
          go_wp2_with fail
          clear q0 q2 q3 q4
          refine hcl.out.mono ?_
          rintro e w5 ⟨d, rfl, hTh, hs5⟩
          clear q1
          have bq5 := bq.out.same hs5 (.inr rfl)
          have bx5 := Lib.hid (bx1.out.same hs5 (.inl rfl))
          have q1 := bq5.get 1 _ rfl
          have her := Lib.hid (three_erase hTh hfit.out hops.out hwear.out qb)
          obtain ⟨hfit2, hops2, _⟩ := good_lim (erase_good hgd.out qb) (by omega)
          replace hfit2 := Lib.hid hfit2
          replace hops2 := Lib.hid hops2
          replace bq5 := Lib.hid bq5
          clear hcl hTh hs5 bq bx1 hT1
          go_wp2_with fail
          refine her.out.mono ?_
          rintro e w6 ⟨⟨xe, rfl⟩, hTh6, hs6⟩
          clear q1
          have bq6 := bq5.out.same hs6 (.inr rfl)
          have bx6 := Lib.hid (bx5.out.same hs6 (.inl rfl))
          have y1 := bq6.get 1 _ rfl
          have y4 := bq6.get 4 _ rfl
          replace bq6 := Lib.hid bq6
          replace hTh6 := Lib.hid hTh6
          clear her hs6 bq5 bx5
          go_upto_region 15 with fail
          refine wp_region_noPanic ?_
          refine wp_region_held_drew (S := fun W => W.cell? ⟨B, 1, none⟩ = some (.int .i64 qb) ∧ W.cell? ⟨B, 4, none⟩ = some (.int .u8 qf.toNat)) (by kernel_rfl) (⟨y1, y4⟩) (fun hHeld => ?_)
          refine wpAnyH_take (i := 0) (v := ?_) rfl (by kernel_rfl) (by kernel_rfl) (by kernel_rfl) (fun _ _ _ h => h) (Or.inl ⟨rfl, ?_⟩) (by assumption) ?_
          rotate_left
          · intro W hSw
            (try dsimp only at hSw)
            go_simp
            try with_reducible rfl
          try simp only [List.getElem_toArray, List.getElem_cons_zero, List.getElem_cons_succ, Act.put, List.setIfInBounds_toArray, List.set_cons_zero, List.set_cons_succ]
          refine wpAnyH_take (i := 1) (v := ?_) rfl (by kernel_rfl) (by kernel_rfl) (by kernel_rfl) (fun _ _ _ h => h) (Or.inl ⟨rfl, ?_⟩) (by assumption) ?_
          rotate_left
          · intro W hSw
            (try dsimp only at hSw)
            go_simp
            try with_reducible rfl
          try simp only [List.getElem_toArray, List.getElem_cons_zero, List.getElem_cons_succ, Act.put, List.setIfInBounds_toArray, List.set_cons_zero, List.set_cons_succ]
          refine wpAnyH_take (i := 2) (v := ?_) rfl (by kernel_rfl) (by kernel_rfl) (by kernel_rfl) (fun _ _ _ h => h) (Or.inl ⟨rfl, ?_⟩) (by assumption) ?_
          rotate_left
          · intro W hSw
            (try dsimp only at hSw)
            go_simp
            try with_reducible rfl
          try simp only [List.getElem_toArray, List.getElem_cons_zero, List.getElem_cons_succ, Act.put, List.setIfInBounds_toArray, List.set_cons_zero, List.set_cons_succ]
          refine wpAnyH_take (i := 3) (v := ?_) rfl (by kernel_rfl) (by kernel_rfl) (by kernel_rfl) (fun _ _ _ h => h) (Or.inl ⟨rfl, ?_⟩) (by assumption) ?_
          rotate_left
          · intro W hSw
            (try dsimp only at hSw)
            go_simp
            try with_reducible rfl
          try simp only [List.getElem_toArray, List.getElem_cons_zero, List.getElem_cons_succ, Act.put, List.setIfInBounds_toArray, List.set_cons_zero, List.set_cons_succ]
          refine wpAnyH_take (i := 4) (v := ?_) rfl (by kernel_rfl) (by kernel_rfl) (by kernel_rfl) (fun _ _ _ h => h) (Or.inl ⟨rfl, ?_⟩) (by assumption) ?_
          rotate_left
          · intro W hSw
            (try dsimp only at hSw)
            go_simp
            try with_reducible rfl
          try simp only [List.getElem_toArray, List.getElem_cons_zero, List.getElem_cons_succ, Act.put, List.setIfInBounds_toArray, List.set_cons_zero, List.set_cons_succ]
          refine wpAnyH_ready (rs := [5]) (by kernel_rfl) (by simp) (AllReadyH.cons rfl (fun K hK => ?_) AllReadyH.nil)
          go_simp
          refine (page_any _ _).mono ?_
          rintro e w7 ⟨rfl, hb7⟩
          have h67 : Below w6.heap.size w6 w7 := ((Below.refl w6.heap.size w6).drew).trans hb7
          have bq7 := bq6.out.below h67
          have bx7 := Lib.hid (bx6.out.below h67)
          have hpr := Lib.hid (three_program (hTh6.out.below h67) hfit2.out hops2.out qb 0 (rep 288 qf) (rep_len _ _))
          clear hb7 h67
          refine hK.out _ _ (⟨bq7.get 1 _ rfl, bq7.get 4 _ rfl⟩) (fun hHeld => ?_)
          clear hK
          try simp only [List.getElem_toArray, List.getElem_cons_zero, List.getElem_cons_succ, Act.put, List.setIfInBounds_toArray, List.set_cons_zero, List.set_cons_succ]
          refine wpAnyH_ready (rs := [6]) (by kernel_rfl) (by simp) (AllReadyH.cons rfl (fun K hK => ?_) AllReadyH.nil)
          go_simp
          refine hpr.out.mono ?_
          rintro e w8 ⟨⟨xr, rfl⟩, hTh8, hs8⟩
          have bq8 := bq7.same hs8 (.inr rfl)
          have bx8 := bx7.out.same hs8 (.inl rfl)
          refine hK.out _ _ (⟨bq8.get 1 _ rfl, bq8.get 4 _ rfl⟩) (fun hHeld => ?_)
          clear hK
          try simp only [List.getElem_toArray, List.getElem_cons_zero, List.getElem_cons_succ, Act.put, List.setIfInBounds_toArray, List.set_cons_zero, List.set_cons_succ]
          refine wpAnyH_done (by kernel_rfl) ?_ _
          (try dsimp only [NoPanic])
          clear y1 y4
          have hTw := Lib.hid (hTh8.two.add (Y' := fun b => b = w.heap.size) (Below.refl _ _) (fun b hb => .inl (.inl hb)))
          replace bx8 := Lib.hid bx8
          clear hTh8 hs8 bq8 bx7 bq7 hpr hTh6 bq6 bx6
          go_wp2_with fail
          go_roundw
          case rel => exact ⟨k + 1, d, s, by omega, by go_num, rfl, hTw.out, bx8.out, hgood1.out _ (hgd.out.mono (by omega)), hkd.out, hevl.out, hbn.out⟩
          case measure => simp [intOf]; omega
        · have z4 : (qd == 4) = false := by simpa using hqd
          have hdo := two_does hT1.out hfit.out hops.out hwear.out (⟨qd, qb, qp, qn, qf⟩ : Cl)
          have hpl := two_len hT1.out (⟨qd, qb, qp, qn, qf⟩ : Cl)
          have hg' := does_good hgd.out (⟨qd, qb, qp, qn, qf⟩ : Cl)
          have hk' := does_kinds hkd.out (⟨qd, qb, qp, qn, qf⟩ : Cl)
          have he' := (does_suf s (⟨qd, qb, qp, qn, qf⟩ : Cl)).length_le
          have hb' := (does_geo s (⟨qd, qb, qp, qn, qf⟩ : Cl)).1
          have hmu := Lib.hid (fun W Y s' (h : Two w W Y c r s' s) => two_must h hfit.out hkd.out hops.out hwear.out (⟨qd, qb, qp, qn, qf⟩ : Cl))
          obtain ⟨⟨⟨pg, le⟩, s'⟩, hR⟩ : ∃ R, s.does (⟨qd, qb, qp, qn, qf⟩ : Cl) = R := ⟨_, rfl⟩
          rw [hR] at hdo hpl hg' hk' he' hb' hmu
          dsimp only at hdo hpl hg' hk' he' hb' hmu
          unfold clV at hdo hmu
          dsimp only at hdo hmu
          replace hdo := Lib.hid hdo
          replace he' := Lib.hid (Nat.le_trans he' hevl.out)
          replace hg' := Lib.hid (hgood1.out _ hg')
          replace hk' := Lib.hid hk'
          replace hb' := Lib.hid (hb'.trans hbn.out)
          clear hR hgd hkd hevl hfit hwear hops hbn hgood1
          go_wp2_with fail
          refine hdo.out.mono ?_
          rintro e w5 ⟨rfl, hT5, hs5⟩
          clear q0 q1 q2 q3 q4 hdo hT1
          have bq5 := bq.out.same hs5 (.inr rfl)
          have bx5 := bx1.out.same hs5 (.inl rfl)
          obtain ⟨hst, px, ha5⟩ := new_page (W := w5) hpl
          have hT6 := hT5.add (Y' := fun b => (b = w.heap.size ∨ b = B) ∨ b = w5.heap.size) ha5 (fun b hb => by
            rcases hb with hb | hb
            · exact .inl hb
            · subst hb; exact .inr ⟨Nat.le_refl _, px.lt⟩)
          have bq6 := bq5.below ha5
          have bx6 := bx5.below ha5
          obtain ⟨W6, hW6⟩ : ∃ W, (w5.alloc (.cells (cellsB (rep 288 0)) 48)).setRow w5.heap.size (cellsB pg) = W := ⟨_, rfl⟩
          rw [hW6] at hst px hT6 bq6 bx6
          have q0 := bq6.get 0 _ rfl
          have q1 := bq6.get 1 _ rfl
          have q2 := bq6.get 2 _ rfl
          have q3 := bq6.get 3 _ rfl
          have q4 := bq6.get 4 _ rfl
          replace hmu := Lib.hid (hmu.out W6 _ s' hT6)
          replace px := Lib.hid px
          replace bq6 := Lib.hid bq6
          replace bx6 := Lib.hid bx6
          obtain ⟨A, hA⟩ : ∃ A, w5.heap.size = A := ⟨_, rfl⟩
          rw [hA] at px hmu
          clear hT5 hT6 hs5 bq5 bx5 ha5 bq bx1 hW6
          unfold pgV at hst ⊢
          replace hA := Lib.hid hA
          go_wp2_with (refine wpList_store_var rfl 48 _ _ rfl _ rfl _ rfl hst ?_)
          rw [hA.out]
          clear hst hA
          refine hmu.out.mono ?_
          rintro e w7 ⟨rfl, hT7, hs7⟩
          clear q0 q1 q2 q3 q4 hmu
          have bq7 := bq6.out.same hs7 (.inl (.inr rfl))
          have bx7 := bx6.out.same hs7 (.inl (.inl rfl))
          have px7 := px.out.same hs7 (.inr rfl)
          obtain ⟨hst, py, ha7⟩ := new_page (W := w7) hpl
          have hT8 := hT7.below ha7
          have bq8 := bq7.below ha7
          have bx8 := bx7.below ha7
          have px8 := px7.below ha7
          obtain ⟨W8, hW8⟩ : ∃ W, (w7.alloc (.cells (cellsB (rep 288 0)) 48)).setRow w7.heap.size (cellsB pg) = W := ⟨_, rfl⟩
          rw [hW8] at hst py
          rw [hW8] at hT8 bq8 bx8 px8
          have q1 := bq8.get 1 _ rfl
          have hld1 := px8.loadPg hpl
          have hld2 := py.loadPg hpl
          have hsame := Lib.hid (two_same hT8 qb)
          have hnq : ∀ W, (binOp .neq 48 (.agg (cellsB pg)) (.agg (cellsB pg))).run Try.prog W = .ok (.bool false) W := fun W => by have := pg_neq pg pg hpl hpl W; unfold pgV at this; rw [this]; simp
          replace hT8 := Lib.hid hT8
          replace bx8 := Lib.hid bx8
          unfold pgV at hst hld1 hld2 ⊢
          clear bq6 bx6 px bq7 bx7 px7 py px8 ha7 hs7 hT7 bq8 hW8
          go_wp2_with (first | (refine wpList_store_var rfl 48 _ _ rfl _ rfl _ rfl hst ?_) | (refine wpList_load_var rfl 48 _ rfl _ rfl _ hld1 ?_) | (refine wpList_load_var rfl 48 _ rfl _ rfl _ hld2 ?_) | (refine wpList_exec rfl _ (exec_pgn (.tmp 92) (.tmp 93) _ rfl _ _ rfl rfl _ (hnq _)) ?_))
          clear hst hld1 hld2 q1
          refine hsame.out.mono ?_
          rintro e w9 ⟨rfl, hb9⟩
          have hT9 := Lib.hid ((hT8.out.below hb9).add (Y' := fun b => b = w.heap.size) (Below.refl _ _) (fun b hb => .inl (.inl (.inl hb))))
          have bx9 := Lib.hid (bx8.out.below hb9)
          clear hb9 hT8 bx8 hsame
          go_wp2_with fail
          go_roundw
          case rel => exact ⟨k + 1, c, s', by omega, by go_num, rfl, hT9.out, bx9.out, hg'.out, hk'.out, he'.out, hb'.out⟩
          case measure => simp [intOf]; omega
      · obtain rfl : k = k1 := by omega
        have gb := bx.get 0 _ rfl
        have hfb := Lib.hid hT.bel
        have hb256 : bn ≤ 256 := by rw [← hbn]; exact hT.bnd.2.1
        replace hT := Lib.hid hT
        clear bx hgd hkd hevl hbn
        go_upto_region 23 with fail
        rename World => Wq
        go_loopw [111] (fun x wr => ∃ j : Nat, j ≤ bn ∧ x = .int .i64 j ∧ Below Wq.heap.size Wq wr) (fun x _ => bn - (intOf x).toNat)
        case atStart => exact ⟨0, by omega, rfl, Below.refl _ _⟩
        case round =>
          obtain ⟨j, hj, rfl, hbr⟩ := hrel
          by_cases hlj : j < bn
          · have hsame := Lib.hid (two_same (hT.out.below hbr) j)
            have hI2 : (j : Int) < (bn : Int) := by omega
            have hj256 : (j : Int) < 1000 := by omega
            replace hbr := Lib.hid hbr
            clear gb
            go_wp2_with fail
            refine hsame.out.mono ?_
            rintro e w9 ⟨rfl, hb9⟩
            replace hbr := Lib.hid (hbr.out.trans (hb9.mono hbr.out.size))
            clear hb9 hsame
            go_wp2_with fail
            go_roundw
            case rel => exact ⟨j + 1, by omega, by go_num, hbr.out⟩
            case measure => simp [intOf]; omega
          · obtain rfl : j = bn := by omega
            have hfin := Lib.hid (hfb.out.trans (hbr.mono hfb.out.size))
            clear gb hbr
            go_wp2_with fail
            go_ret
            exact ⟨rfl, hfin.out⟩
end Go.Proofs.Ytlgjlhgdpiipbaa
