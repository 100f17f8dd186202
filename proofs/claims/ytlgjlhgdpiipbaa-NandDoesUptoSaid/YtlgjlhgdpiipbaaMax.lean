import Derived.Test.YtlgjlhgdpiipbaaMap
import Derived.Test.YtlgjlhgdpiipbaaMas
/- same: a block is as it must be. -/
namespace Go.Proofs.Ytlgjlhgdpiipbaa
open Go.RowKit
set_option maxRecDepth 100000 in
set_option maxHeartbeats 16000000 in
theorem same_any {w W : World} {X Gm Gr : Nat → Prop} {c r : Nat} {st : Chip} {L : RLay} (hH : Has w W X c st) (hR : RefR W Gm Gr r st L) (n : Int) :
    Calls Try.prog 14 #[.pointer (some ⟨c, 0, none⟩), .pointer (some ⟨r, 0, none⟩), .int .i64 n] W (fun e w' => e = .returned (.bool true) ∧ Below W.heap.size W w') := by
  have hl1 := has_look hH n
  obtain ⟨⟨lw, ln, lb⟩, hl⟩ : ∃ l, (st.lookAt n).1 = l := ⟨_, rfl⟩
  obtain ⟨le, hle⟩ : ∃ l, (st.lookAt n).2 = l := ⟨_, rfl⟩
  rw [hl, hle] at hl1
  unfold lookV lookA at hl1
  dsimp only at hl1
  replace hl1 := Lib.hid hl1
  replace hH := Lib.hid hH
  replace hR := Lib.hid hR
  go_enter Try.func14, Try.ntmps14
  go_wp2_with fail
  refine hl1.out.mono ?_
  rintro e w1 ⟨rfl, hb1⟩
  have hal : Below w1.heap.size w1 (w1.alloc (.cells #[.int .i64 lw, .int .i64 ln, .bool lb] 42)) := (Below.refl _ _).alloc (Nat.le_refl _) _
  have bA := (Box.new w1 42 #[.int .i64 lw, .int .i64 ln, .bool lb])
  have hb2 := hb1.trans (hal.mono hb1.size)
  have hR2 := hR.out.below hb2
  have hl2 := rlook_any hR2 n
  rw [hl, hle] at hl2
  unfold lookV lookA at hl2
  dsimp only at hl2
  replace hl2 := Lib.hid hl2
  replace bA := Lib.hid bA
  replace hb2 := Lib.hid hb2
  clear hl1 hal hb1 hR2
  go_wp2_with fail
  refine hl2.out.mono ?_
  rintro e w3 ⟨rfl, hb3⟩
  have hal : Below w3.heap.size w3 (w3.alloc (.cells #[.int .i64 lw, .int .i64 ln, .bool lb] 42)) := (Below.refl _ _).alloc (Nat.le_refl _) _
  have bB := (Box.new w3 42 #[.int .i64 lw, .int .i64 ln, .bool lb])
  have hb4 := (hb2.out.trans (hb3.mono hb2.out.size)).trans (hal.mono (Nat.le_trans hb2.out.size hb3.size))
  replace bA := (bA.out.below hb3).below hal
  go_upto_region 3 with fail
  obtain ⟨W4, hW4⟩ : ∃ W, w3.alloc (.cells #[.int .i64 lw, .int .i64 ln, .bool lb] 42) = W := ⟨_, rfl⟩
  rw [hW4] at bA bB hb4 ⊢
  obtain ⟨A, hA⟩ : ∃ A, w1.heap.size = A := ⟨_, rfl⟩
  obtain ⟨B, hB⟩ : ∃ B, w3.heap.size = B := ⟨_, rfl⟩
  rw [hA] at bA ⊢
  rw [hB] at bB ⊢
  clear hA hB hW4 hl2 hal hb3 hb2
  have hH4 := hH.out.below hb4
  have hR4 := hR.out.below hb4
  have hb5 := (Below.refl W4.heap.size W4).drew
  have hops := has_ops (hH4.below hb5)
  have hon := has_on (hH4.below hb5)
  have r4 := fun W (h : Below W4.heap.size W4 W) => (hR4.below h).c4
  have r5 := fun W (h : Below W4.heap.size W4 W) => (hR4.below h).c5
  obtain ⟨no, hno⟩ : ∃ x, st.ops = x := ⟨_, rfl⟩
  obtain ⟨on, hno2⟩ : ∃ x, (!st.off) = x := ⟨_, rfl⟩
  rw [hno] at hops r4
  rw [hno2] at hon r5
  have hS := Lib.hid (fun W (h : Below W4.heap.size W4 W) => show (fun W => W.cell? ⟨A, 0, none⟩ = some (.int .i64 lw) ∧ W.cell? ⟨A, 1, none⟩ = some (.int .i64 ln) ∧ W.cell? ⟨A, 2, none⟩ = some (.bool lb) ∧ W.cell? ⟨B, 0, none⟩ = some (.int .i64 lw) ∧ W.cell? ⟨B, 1, none⟩ = some (.int .i64 ln) ∧ W.cell? ⟨B, 2, none⟩ = some (.bool lb) ∧ W.cell? ⟨r, 4, none⟩ = some (.int .i64 no) ∧ W.cell? ⟨r, 5, none⟩ = some (.bool on)) W from ⟨(bA.below h).get 0 _ rfl, (bA.below h).get 1 _ rfl, (bA.below h).get 2 _ rfl, (bB.below h).get 0 _ rfl, (bB.below h).get 1 _ rfl, (bB.below h).get 2 _ rfl, r4 W h, r5 W h⟩)
  replace hops := Lib.hid hops
  replace hon := Lib.hid hon
  clear r4 r5 bA bB hno hno2
  replace hb4 := Lib.hid hb4
  refine wp_region_noPanic ?_
  refine wp_region_held_drew (S := fun W => W.cell? ⟨A, 0, none⟩ = some (.int .i64 lw) ∧ W.cell? ⟨A, 1, none⟩ = some (.int .i64 ln) ∧ W.cell? ⟨A, 2, none⟩ = some (.bool lb) ∧ W.cell? ⟨B, 0, none⟩ = some (.int .i64 lw) ∧ W.cell? ⟨B, 1, none⟩ = some (.int .i64 ln) ∧ W.cell? ⟨B, 2, none⟩ = some (.bool lb) ∧ W.cell? ⟨r, 4, none⟩ = some (.int .i64 no) ∧ W.cell? ⟨r, 5, none⟩ = some (.bool on)) (by kernel_rfl) (hS.out _ hb5) (fun hHeld => ?_)
  refine wpAnyH_take (i := 0) (v := ?_) rfl (by kernel_rfl) (by kernel_rfl) (by kernel_rfl) (fun _ _ _ h => h) (Or.inl ⟨rfl, ?_⟩) (by assumption) ?_
  rotate_left
  · intro W hSw
    (try dsimp only at hSw)
    go_simp
    try with_reducible rfl
  try simp only [List.getElem_toArray, List.getElem_cons_zero, List.getElem_cons_succ, Act.put, List.setIfInBounds_toArray, List.set_cons_zero, List.set_cons_succ]
  refine wpAnyH_take (i := 1) (v := ?_) rfl (by kernel_rfl) (by kernel_rfl) (by kernel_rfl) (fun _ _ _ h => h) (Or.inl ⟨rfl, ?_⟩) (by assumption) ?_
  rotate_left
  · intro W hSw
    (try dsimp only at hSw)
    go_simp
    try with_reducible rfl
  try simp only [List.getElem_toArray, List.getElem_cons_zero, List.getElem_cons_succ, Act.put, List.setIfInBounds_toArray, List.set_cons_zero, List.set_cons_succ]
  refine wpAnyH_take (i := 2) (v := ?_) rfl (by kernel_rfl) (by kernel_rfl) (by kernel_rfl) (fun _ _ _ h => h) (Or.inl ⟨rfl, ?_⟩) (by assumption) ?_
  rotate_left
  · intro W hSw
    (try dsimp only at hSw)
    go_simp
    try with_reducible rfl
  try simp only [List.getElem_toArray, List.getElem_cons_zero, List.getElem_cons_succ, Act.put, List.setIfInBounds_toArray, List.set_cons_zero, List.set_cons_succ]
  refine wpAnyH_take (i := 3) (v := ?_) rfl (by kernel_rfl) (by kernel_rfl) (by kernel_rfl) (fun _ _ _ h => h) (Or.inl ⟨rfl, ?_⟩) (by assumption) ?_
  rotate_left
  · intro W hSw
    (try dsimp only at hSw)
    go_simp
    try with_reducible rfl
  try simp only [List.getElem_toArray, List.getElem_cons_zero, List.getElem_cons_succ, Act.put, List.setIfInBounds_toArray, List.set_cons_zero, List.set_cons_succ]
  refine wpAnyH_take (i := 4) (v := ?_) rfl (by kernel_rfl) (by kernel_rfl) (by kernel_rfl) (fun _ _ _ h => h) (Or.inl ⟨rfl, ?_⟩) (by assumption) ?_
  rotate_left
  · intro W hSw
    (try dsimp only at hSw)
    go_simp
    try with_reducible rfl
  try simp only [List.getElem_toArray, List.getElem_cons_zero, List.getElem_cons_succ, Act.put, List.setIfInBounds_toArray, List.set_cons_zero, List.set_cons_succ]
  refine wpAnyH_take (i := 5) (v := ?_) rfl (by kernel_rfl) (by kernel_rfl) (by kernel_rfl) (fun _ _ _ h => h) (Or.inl ⟨rfl, ?_⟩) (by assumption) ?_
  rotate_left
  · intro W hSw
    (try dsimp only at hSw)
    go_simp
    try with_reducible rfl
  try simp only [List.getElem_toArray, List.getElem_cons_zero, List.getElem_cons_succ, Act.put, List.setIfInBounds_toArray, List.set_cons_zero, List.set_cons_succ]
  refine wpAnyH_take (i := 6) (v := ?_) rfl (by kernel_rfl) (by kernel_rfl) (by kernel_rfl) (fun _ _ _ h => h) (Or.inl ⟨rfl, ?_⟩) (by assumption) ?_
  rotate_left
  · intro W hSw
    (try dsimp only at hSw)
    go_simp
    try with_reducible rfl
  try simp only [List.getElem_toArray, List.getElem_cons_zero, List.getElem_cons_succ, Act.put, List.setIfInBounds_toArray, List.set_cons_zero, List.set_cons_succ]
  refine wpAnyH_take (i := 7) (v := ?_) rfl (by kernel_rfl) (by kernel_rfl) (by kernel_rfl) (fun _ _ _ h => h) (Or.inl ⟨rfl, ?_⟩) (by assumption) ?_
  rotate_left
  · intro W hSw
    (try dsimp only at hSw)
    go_simp
    try with_reducible rfl
  try simp only [List.getElem_toArray, List.getElem_cons_zero, List.getElem_cons_succ, Act.put, List.setIfInBounds_toArray, List.set_cons_zero, List.set_cons_succ]
  refine wpAnyH_take (i := 8) (v := ?_) rfl (by kernel_rfl) (by kernel_rfl) (by kernel_rfl) (fun _ _ _ h => h) (Or.inl ⟨rfl, ?_⟩) (by assumption) ?_
  rotate_left
  · intro W hSw
    (try dsimp only at hSw)
    go_simp
    try with_reducible rfl
  try simp only [List.getElem_toArray, List.getElem_cons_zero, List.getElem_cons_succ, Act.put, List.setIfInBounds_toArray, List.set_cons_zero, List.set_cons_succ]
  refine wpAnyH_take (i := 9) (v := ?_) rfl (by kernel_rfl) (by kernel_rfl) (by kernel_rfl) (fun _ _ _ h => h) (Or.inl ⟨rfl, ?_⟩) (by assumption) ?_
  rotate_left
  · intro W hSw
    (try dsimp only at hSw)
    go_simp
    try with_reducible rfl
  try simp only [List.getElem_toArray, List.getElem_cons_zero, List.getElem_cons_succ, Act.put, List.setIfInBounds_toArray, List.set_cons_zero, List.set_cons_succ]
  refine wpAnyH_take (i := 11) (v := ?_) rfl (by kernel_rfl) (by kernel_rfl) (by kernel_rfl) (fun _ _ _ h => h) (Or.inl ⟨rfl, ?_⟩) (by assumption) ?_
  rotate_left
  · intro W hSw
    (try dsimp only at hSw)
    go_simp
    try with_reducible rfl
  try simp only [List.getElem_toArray, List.getElem_cons_zero, List.getElem_cons_succ, Act.put, List.setIfInBounds_toArray, List.set_cons_zero, List.set_cons_succ]
  refine wpAnyH_take (i := 12) (v := ?_) rfl (by kernel_rfl) (by kernel_rfl) (by kernel_rfl) (fun _ _ _ h => h) (Or.inl ⟨rfl, ?_⟩) (by assumption) ?_
  rotate_left
  · intro W hSw
    (try dsimp only at hSw)
    go_simp
    try with_reducible rfl
  try simp only [List.getElem_toArray, List.getElem_cons_zero, List.getElem_cons_succ, Act.put, List.setIfInBounds_toArray, List.set_cons_zero, List.set_cons_succ]
  refine wpAnyH_take (i := 13) (v := ?_) rfl (by kernel_rfl) (by kernel_rfl) (by kernel_rfl) (fun _ _ _ h => h) (Or.inl ⟨rfl, ?_⟩) (by assumption) ?_
  rotate_left
  · intro W hSw
    (try dsimp only at hSw)
    go_simp
    try with_reducible rfl
  try simp only [List.getElem_toArray, List.getElem_cons_zero, List.getElem_cons_succ, Act.put, List.setIfInBounds_toArray, List.set_cons_zero, List.set_cons_succ]
  refine wpAnyH_take (i := 14) (v := ?_) rfl (by kernel_rfl) (by kernel_rfl) (by kernel_rfl) (fun _ _ _ h => h) (Or.inl ⟨rfl, ?_⟩) (by assumption) ?_
  rotate_left
  · intro W hSw
    (try dsimp only at hSw)
    go_simp
    try with_reducible rfl
  try simp only [List.getElem_toArray, List.getElem_cons_zero, List.getElem_cons_succ, Act.put, List.setIfInBounds_toArray, List.set_cons_zero, List.set_cons_succ]
  refine wpAnyH_ready (rs := [10]) (by kernel_rfl) (by simp) (AllReadyH.cons rfl (fun K hK => ?_) AllReadyH.nil)
  go_simp
  refine (hops.out).mono ?_
  rintro e w' ⟨rfl, hw⟩
  obtain rfl := hw.symm
  refine hK.out _ _ (hS.out _ hb5) (fun hHeld => ?_)
  clear hK
  try simp only [List.getElem_toArray, List.getElem_cons_zero, List.getElem_cons_succ, Act.put, List.setIfInBounds_toArray, List.set_cons_zero, List.set_cons_succ]
  refine wpAnyH_take (i := 15) (v := ?_) rfl (by kernel_rfl) (by kernel_rfl) (by kernel_rfl) (fun _ _ _ h => h) (Or.inl ⟨rfl, ?_⟩) (by assumption) ?_
  rotate_left
  · intro W hSw
    (try dsimp only at hSw)
    go_simp
    try with_reducible rfl
  try simp only [List.getElem_toArray, List.getElem_cons_zero, List.getElem_cons_succ, Act.put, List.setIfInBounds_toArray, List.set_cons_zero, List.set_cons_succ]
  refine wpAnyH_take (i := 16) (v := ?_) rfl (by kernel_rfl) (by kernel_rfl) (by kernel_rfl) (fun _ _ _ h => h) (Or.inl ⟨rfl, ?_⟩) (by assumption) ?_
  rotate_left
  · intro W hSw
    (try dsimp only at hSw)
    go_simp
    try with_reducible rfl
  try simp only [List.getElem_toArray, List.getElem_cons_zero, List.getElem_cons_succ, Act.put, List.setIfInBounds_toArray, List.set_cons_zero, List.set_cons_succ]
  refine wpAnyH_take (i := 17) (v := ?_) rfl (by kernel_rfl) (by kernel_rfl) (by kernel_rfl) (fun _ _ _ h => h) (Or.inl ⟨rfl, ?_⟩) (by assumption) ?_
  rotate_left
  · intro W hSw
    (try dsimp only at hSw)
    go_simp
    try with_reducible rfl
  try simp only [List.getElem_toArray, List.getElem_cons_zero, List.getElem_cons_succ, Act.put, List.setIfInBounds_toArray, List.set_cons_zero, List.set_cons_succ]
  refine wpAnyH_take (i := 18) (v := ?_) rfl (by kernel_rfl) (by kernel_rfl) (by kernel_rfl) (fun _ _ _ h => h) (Or.inl ⟨rfl, ?_⟩) (by assumption) ?_
  rotate_left
  · intro W hSw
    (try dsimp only at hSw)
    go_simp
    try with_reducible rfl
  try simp only [List.getElem_toArray, List.getElem_cons_zero, List.getElem_cons_succ, Act.put, List.setIfInBounds_toArray, List.set_cons_zero, List.set_cons_succ]
  refine wpAnyH_take (i := 20) (v := ?_) rfl (by kernel_rfl) (by kernel_rfl) (by kernel_rfl) (fun _ _ _ h => h) (Or.inl ⟨rfl, ?_⟩) (by assumption) ?_
  rotate_left
  · intro W hSw
    (try dsimp only at hSw)
    go_simp
    try with_reducible rfl
  try simp only [List.getElem_toArray, List.getElem_cons_zero, List.getElem_cons_succ, Act.put, List.setIfInBounds_toArray, List.set_cons_zero, List.set_cons_succ]
  refine wpAnyH_take (i := 21) (v := ?_) rfl (by kernel_rfl) (by kernel_rfl) (by kernel_rfl) (fun _ _ _ h => h) (Or.inl ⟨rfl, ?_⟩) (by assumption) ?_
  rotate_left
  · intro W hSw
    (try dsimp only at hSw)
    go_simp
    try with_reducible rfl
  try simp only [List.getElem_toArray, List.getElem_cons_zero, List.getElem_cons_succ, Act.put, List.setIfInBounds_toArray, List.set_cons_zero, List.set_cons_succ]
  refine wpAnyH_take (i := 22) (v := ?_) rfl (by kernel_rfl) (by kernel_rfl) (by kernel_rfl) (fun _ _ _ h => h) (Or.inl ⟨rfl, ?_⟩) (by assumption) ?_
  rotate_left
  · intro W hSw
    (try dsimp only at hSw)
    go_simp
    try with_reducible rfl
  try simp only [List.getElem_toArray, List.getElem_cons_zero, List.getElem_cons_succ, Act.put, List.setIfInBounds_toArray, List.set_cons_zero, List.set_cons_succ]
  refine wpAnyH_take (i := 23) (v := ?_) rfl (by kernel_rfl) (by kernel_rfl) (by kernel_rfl) (fun _ _ _ h => h) (Or.inl ⟨rfl, ?_⟩) (by assumption) ?_
  rotate_left
  · intro W hSw
    (try dsimp only at hSw)
    go_simp
    try with_reducible rfl
  try simp only [List.getElem_toArray, List.getElem_cons_zero, List.getElem_cons_succ, Act.put, List.setIfInBounds_toArray, List.set_cons_zero, List.set_cons_succ]
  refine wpAnyH_ready (rs := [19]) (by kernel_rfl) (by simp) (AllReadyH.cons rfl (fun K hK => ?_) AllReadyH.nil)
  go_simp
  refine (hon.out).mono ?_
  rintro e w' ⟨rfl, hw⟩
  obtain rfl := hw.symm
  refine hK.out _ _ (hS.out _ hb5) (fun hHeld => ?_)
  clear hK
  try simp only [List.getElem_toArray, List.getElem_cons_zero, List.getElem_cons_succ, Act.put, List.setIfInBounds_toArray, List.set_cons_zero, List.set_cons_succ]
  refine wpAnyH_take (i := 24) (v := ?_) rfl (by kernel_rfl) (by kernel_rfl) (by kernel_rfl) (fun _ _ _ h => h) (Or.inl ⟨rfl, ?_⟩) (by assumption) ?_
  rotate_left
  · intro W hSw
    (try dsimp only at hSw)
    go_simp
    try with_reducible rfl
  try simp only [List.getElem_toArray, List.getElem_cons_zero, List.getElem_cons_succ, Act.put, List.setIfInBounds_toArray, List.set_cons_zero, List.set_cons_succ]
  refine wpAnyH_take (i := 25) (v := ?_) rfl (by kernel_rfl) (by kernel_rfl) (by kernel_rfl) (fun _ _ _ h => h) (Or.inl ⟨rfl, ?_⟩) (by assumption) ?_
  rotate_left
  · intro W hSw
    (try dsimp only at hSw)
    go_simp
    try with_reducible rfl
  try simp only [List.getElem_toArray, List.getElem_cons_zero, List.getElem_cons_succ, Act.put, List.setIfInBounds_toArray, List.set_cons_zero, List.set_cons_succ]
  refine wpAnyH_done (by kernel_rfl) ?_ _
  (try dsimp only [NoPanic])
  have hH5 := hH.out.below (hb4.out.trans (hb5.mono hb4.out.size))
  have hR5 := hR.out.below (hb4.out.trans (hb5.mono hb4.out.size))
  obtain ⟨W5, hW5⟩ : ∃ W, W4.drew = W := ⟨_, rfl⟩
  have hbW := Lib.hid (hb4.out.trans (hb5.mono hb4.out.size))
  rw [hW5] at hH5 hR5 hbW ⊢
  clear hW5 hops hon hb5 hb4 hS hH hR
  have hpg := has_pages22 hH5 n
  have hp32 := pagesOf_len hH5 n
  have h288 := pagesOf_mem hH5 n
  obtain ⟨ps, hps⟩ : ∃ ps, st.pagesOf n = ps := ⟨_, rfl⟩
  rw [hps] at hpg hp32 h288
  have hcase : (st.there n = false ∧ ps = [] ∧ le = 22) ∨ (∃ i : Nat, n = i ∧ i < st.bn ∧ le = 0 ∧ ps = (List.range st.pn).map (st.blk i).pages) := by
    rcases hth : st.there n with _ | _
    · left
      refine ⟨rfl, by rw [← hps]; exact pagesOf_no hth, ?_⟩
      rw [← hle]; unfold Chip.lookAt; rw [hth]; rfl
    · right
      obtain ⟨i, rfl, hi⟩ := Chip.there_nat hth
      refine ⟨i, rfl, hi, ?_, by rw [← hps]; exact pagesOf_yes hth⟩
      rw [← hle]; unfold Chip.lookAt; rw [hth]; rfl
  obtain ⟨np, hnp⟩ : ∃ n, ps.length = n := ⟨_, rfl⟩
  unfold SeqPg at hpg
  rw [hnp] at hpg hp32
  replace hpg := Lib.hid hpg
  replace h288 := Lib.hid h288
  replace hnp := Lib.hid hnp
  replace hcase := Lib.hid hcase
  replace hH5 := Lib.hid hH5
  replace hR5 := Lib.hid hR5
  clear hps hl hle
  go_wp2_with fail
  refine hpg.out.mono ?_
  rintro e w6 ⟨Bl, pa, pc, rfl, hBl, hbx, hrd, hla, hb6⟩
  rw [← hnp.out] at hbx hrd
  have h21 := has_pages21 hH5.out hb6 (by rw [hnp.out]; exact hp32) hbx hrd hla
  unfold HasPgs at h21
  rw [hnp.out] at h21
  replace h21 := Lib.hid h21
  have hR6 := Lib.hid (hR5.out.below hb6)
  have hbW6 := Lib.hid (hbW.out.trans (hb6.mono hbW.out.size))
  clear hpg hbx hrd hla hBl hb6 hH5 hR5 hbW
  go_wp2_with fail
  refine h21.out.mono ?_
  rintro e w7 ⟨ao, cp, bo, cq, rfl, _, hRn, hRp, hb7⟩
  have hR7 := Lib.hid (hR6.out.below hb7)
  have hbW7 := Lib.hid (hbW6.out.trans (hb7.mono hbW6.out.size))
  replace hRn := Lib.hid hRn
  replace hRp := Lib.hid hRp
  clear h21 hb7 hR6 hbW6
  rcases hcase.out with ⟨_, hpe, rfl⟩ | ⟨i, rfl, hi, rfl, hpe⟩
  · have hnp0 : np = 0 := by rw [← hnp.out, hpe]; rfl
    subst hnp0
    clear hcase hpe
    go_wp2_with fail
    go_ret
    exact ⟨rfl, hbW7.out⟩
  · have hnpe : np = st.pn := by rw [← hnp.out, hpe]; simp
    subst hnpe
    clear hcase
    go_wp2_with fail
    go_loopw [67] (fun x wr => ∃ j : Nat, j ≤ st.pn ∧ x = .int .i64 j ∧ Below w7.heap.size w7 wr) (fun x _ => st.pn - (intOf x).toNat)
    case atStart => exact ⟨0, by omega, rfl, Below.refl _ _⟩
    case round =>
      obtain ⟨j, hj, rfl, hbr⟩ := hrel
      by_cases hlj : j < st.pn
      · have hlp : j < ps.length := by rw [hnp.out]; exact hlj
        obtain ⟨bo', oo, co, hvo, _, _, _, _⟩ := hRp.out.at (by intro e; rw [e] at hlp; simp at hlp)
        rw [hnp.out] at hvo
        cases hvo
        have hnl : j < (List.range st.pn).length := by rw [List.length_range]; exact hlj
        obtain ⟨bn', on', cn', hvn, _, _, hbn', hcn⟩ := hRn.out.at (by intro e; rw [e] at hnl; simp at hnl)
        rw [List.length_range] at hvn
        cases hvn
        have hcn : w7.cell? ⟨bn', on' + j, none⟩ = some (.int .i64 j) := by
          have := hcn j hnl 0 (.int .i64 j) (by rw [List.getElem_range]; rfl)
          rw [Nat.mul_one, Nat.add_zero] at this
          exact this
        have hI2 : (0 : Int) ≤ (j : Int) := by omega
        have hI3 : (j : Int) < (st.pn : Int) := by omega
        have hI4 : (0 : Int) ≤ (i : Int) := by omega
        have hI5 : (i : Int) < (st.bn : Int) := by omega
        have hpj : ps[j] = (st.blk i).pages j := by simp [hpe]
        have hld := (hRp.out.below hbr).load h288.out j hlp
        have hl288 := h288.out _ (List.getElem_mem hlp)
        rw [hpj] at hld hl288
        have hRpg := Lib.hid (fun W (h : Below w7.heap.size w7 W) => (hR7.out.below h).loadPg hi hlj)
        have hR2 := Lib.hid (fun W (h : Below w7.heap.size w7 W) => (hR7.out.below h).c2)
        have hRb := Lib.hid (fun W (h : Below w7.heap.size w7 W) => show W.cell? ⟨L.ba, i * 4, none⟩ = _ from (hR7.out.below h).bcell hi 0 _ rfl)
        obtain ⟨p, hp⟩ : ∃ p, (st.blk i).pages j = p := ⟨_, rfl⟩
        rw [hp] at hld hl288 hRpg
        unfold pgV at hld hRpg
        have bz := Box.new wr 48 (cellsB (rep 288 0))
        obtain ⟨hst, by4, hg4⟩ := bz.storePg (l := p) (by rw [cellsB_size, rep_len]) hl288
        have hal4 := ((Below.refl wr.heap.size wr).alloc (Nat.le_refl _) (.cells (cellsB (rep 288 0)) 48)).grown hg4 (by rw [World.size_alloc]; omega) (fun b e => by cases e; exact Nat.le_refl _)
        obtain ⟨w12, hw12⟩ : ∃ W2, (wr.alloc (.cells (cellsB (rep 288 0)) 48)).setRow wr.heap.size (cellsB p) = W2 := ⟨_, rfl⟩
        rw [hw12] at hst hal4 by4
        have hB12 := Lib.hid (hbr.trans (hal4.mono hbr.size))
        unfold pgV at hst
        have hz := zero48
        have q1 : ∀ W, (binOp .neq 48 (.agg (cellsB p)) (.agg (cellsB p))).run Try.prog W = .ok (.bool false) W := fun W => by have := pg_neq p p hl288 hl288 W; unfold pgV at this; rw [this]; simp
        have hS := Lib.hid (fun W (h : Below w12.heap.size w12 W) => show (fun W => W.cell? ⟨bn', on' + j, none⟩ = some (.int .i64 j) ∧ (loadVar 48 ⟨wr.heap.size, 0, none⟩).run Try.prog W = .ok (.agg (cellsB p)) W ∧ W.cell? ⟨r, 2, none⟩ = some (.slice (some ⟨L.ba, 0, none⟩) st.bn L.bcap) ∧ W.cell? ⟨L.ba, i * 4, none⟩ = some (.slice (some ⟨L.p i, 0, none⟩) st.pn (L.pcap i)) ∧ (loadVar 48 ⟨L.p i, j * 288, none⟩).run Try.prog W = .ok (.agg (cellsB p)) W) W from ⟨((hB12.out.trans (h.mono hB12.out.size)).cell (p := ⟨bn', on' + j, none⟩) hbn').trans hcn, (by4.below h).loadPg hl288, hR2.out W (hB12.out.trans (h.mono hB12.out.size)), hRb.out W (hB12.out.trans (h.mono hB12.out.size)), hRpg.out W (hB12.out.trans (h.mono hB12.out.size))⟩)
        clear bz hg4 hal4 hp hw12 hpj by4 hcn hRpg hR2 hRb
        go_upto_region 11 with (first | (refine wpList_load_var rfl 48 _ rfl _ rfl _ hld ?_) | (refine wpList_store_var rfl 48 _ _ rfl _ rfl _ rfl hst ?_))
        clear hst hz hld
        obtain ⟨P, hP⟩ : ∃ P, wr.heap.size = P := ⟨_, rfl⟩
        rw [hP] at hS ⊢
        clear hP
        have hb20 := (Below.refl w12.heap.size w12).drew
        refine wp_region_noPanic ?_
        refine wp_region_held_drew (S := fun W => W.cell? ⟨bn', on' + j, none⟩ = some (.int .i64 j) ∧ (loadVar 48 ⟨P, 0, none⟩).run Try.prog W = .ok (.agg (cellsB p)) W ∧ W.cell? ⟨r, 2, none⟩ = some (.slice (some ⟨L.ba, 0, none⟩) st.bn L.bcap) ∧ W.cell? ⟨L.ba, i * 4, none⟩ = some (.slice (some ⟨L.p i, 0, none⟩) st.pn (L.pcap i)) ∧ (loadVar 48 ⟨L.p i, j * 288, none⟩).run Try.prog W = .ok (.agg (cellsB p)) W) (by kernel_rfl) (hS.out _ hb20) (fun hHeld => ?_)
        refine wpAnyH_take (i := 0) (v := ?_) rfl (by kernel_rfl) (by kernel_rfl) (by kernel_rfl) (fun _ _ _ h => h) (Or.inl ⟨rfl, ?_⟩) (by assumption) ?_
        rotate_left
        · intro W hSw
          (try dsimp only at hSw)
          go_simp
          try with_reducible rfl
        try simp only [List.getElem_toArray, List.getElem_cons_zero, List.getElem_cons_succ, Act.put, List.setIfInBounds_toArray, List.set_cons_zero, List.set_cons_succ]
        refine wpAnyH_take (i := 1) (v := ?_) rfl (by kernel_rfl) (by kernel_rfl) (by kernel_rfl) (fun _ _ _ h => h) (Or.inl ⟨rfl, ?_⟩) (by assumption) ?_
        rotate_left
        · intro W hSw
          (try dsimp only at hSw)
          go_simp
          try with_reducible rfl
        try simp only [List.getElem_toArray, List.getElem_cons_zero, List.getElem_cons_succ, Act.put, List.setIfInBounds_toArray, List.set_cons_zero, List.set_cons_succ]
        refine wpAnyH_take (i := 2) (v := ?_) rfl (by kernel_rfl) (by kernel_rfl) (by kernel_rfl) (fun _ _ _ h => h) (Or.inl ⟨rfl, ?_⟩) (by assumption) ?_
        rotate_left
        · intro W hSw
          (try dsimp only at hSw)
          go_simp
          try with_reducible rfl
        try simp only [List.getElem_toArray, List.getElem_cons_zero, List.getElem_cons_succ, Act.put, List.setIfInBounds_toArray, List.set_cons_zero, List.set_cons_succ]
        refine wpAnyH_take (i := 3) (v := ?_) rfl (by kernel_rfl) (by kernel_rfl) (by kernel_rfl) (fun _ _ _ h => h) (Or.inl ⟨rfl, ?_⟩) (by assumption) ?_
        rotate_left
        · intro W hSw
          (try dsimp only at hSw)
          go_simp
          try with_reducible rfl
        try simp only [List.getElem_toArray, List.getElem_cons_zero, List.getElem_cons_succ, Act.put, List.setIfInBounds_toArray, List.set_cons_zero, List.set_cons_succ]
        refine wpAnyH_take (i := 4) (v := ?_) rfl (by kernel_rfl) (by kernel_rfl) (by kernel_rfl) (fun _ _ _ h => h) (Or.inl ⟨rfl, ?_⟩) (by assumption) ?_
        rotate_left
        · intro W hSw
          (try dsimp only at hSw)
          go_simp
          try with_reducible rfl
        try simp only [List.getElem_toArray, List.getElem_cons_zero, List.getElem_cons_succ, Act.put, List.setIfInBounds_toArray, List.set_cons_zero, List.set_cons_succ]
        refine wpAnyH_take (i := 5) (v := ?_) rfl (by kernel_rfl) (by kernel_rfl) (by kernel_rfl) (fun _ _ _ h => h) (Or.inl ⟨rfl, ?_⟩) (by assumption) ?_
        rotate_left
        · intro W hSw
          (try dsimp only at hSw)
          go_simp
          try with_reducible rfl
        try simp only [List.getElem_toArray, List.getElem_cons_zero, List.getElem_cons_succ, Act.put, List.setIfInBounds_toArray, List.set_cons_zero, List.set_cons_succ]
        refine wpAnyH_take (i := 6) (v := ?_) rfl (by kernel_rfl) (by kernel_rfl) (by kernel_rfl) (fun _ _ _ h => h) (Or.inl ⟨rfl, ?_⟩) (by assumption) ?_
        rotate_left
        · intro W hSw
          (try dsimp only at hSw)
          go_simp
          try with_reducible rfl
        try simp only [List.getElem_toArray, List.getElem_cons_zero, List.getElem_cons_succ, Act.put, List.setIfInBounds_toArray, List.set_cons_zero, List.set_cons_succ]
        refine wpAnyH_take (i := 7) (v := .agg (cellsB p)) rfl (by kernel_rfl) (by kernel_rfl) (by kernel_rfl) (fun _ _ _ h => h) (Or.inl ⟨rfl, ?_⟩) (by assumption) ?_
        · intro W hSw
          exact exec_load 48 (.tmp 14) rfl _ rfl _ hSw.2.1
        try simp only [List.getElem_toArray, List.getElem_cons_zero, List.getElem_cons_succ, Act.put, List.setIfInBounds_toArray, List.set_cons_zero, List.set_cons_succ]
        refine wpAnyH_take (i := 8) (v := ?_) rfl (by kernel_rfl) (by kernel_rfl) (by kernel_rfl) (fun _ _ _ h => h) (Or.inl ⟨rfl, ?_⟩) (by assumption) ?_
        rotate_left
        · intro W hSw
          (try dsimp only at hSw)
          go_simp
          try with_reducible rfl
        try simp only [List.getElem_toArray, List.getElem_cons_zero, List.getElem_cons_succ, Act.put, List.setIfInBounds_toArray, List.set_cons_zero, List.set_cons_succ]
        refine wpAnyH_take (i := 9) (v := ?_) rfl (by kernel_rfl) (by kernel_rfl) (by kernel_rfl) (fun _ _ _ h => h) (Or.inl ⟨rfl, ?_⟩) (by assumption) ?_
        rotate_left
        · intro W hSw
          (try dsimp only at hSw)
          go_simp
          try with_reducible rfl
        try simp only [List.getElem_toArray, List.getElem_cons_zero, List.getElem_cons_succ, Act.put, List.setIfInBounds_toArray, List.set_cons_zero, List.set_cons_succ]
        refine wpAnyH_take (i := 10) (v := ?_) rfl (by kernel_rfl) (by kernel_rfl) (by kernel_rfl) (fun _ _ _ h => h) (Or.inl ⟨rfl, ?_⟩) (by assumption) ?_
        rotate_left
        · intro W hSw
          (try dsimp only at hSw)
          go_simp
          try with_reducible rfl
        try simp only [List.getElem_toArray, List.getElem_cons_zero, List.getElem_cons_succ, Act.put, List.setIfInBounds_toArray, List.set_cons_zero, List.set_cons_succ]
        refine wpAnyH_take (i := 11) (v := ?_) rfl (by kernel_rfl) (by kernel_rfl) (by kernel_rfl) (fun _ _ _ h => h) (Or.inl ⟨rfl, ?_⟩) (by assumption) ?_
        rotate_left
        · intro W hSw
          (try dsimp only at hSw)
          go_simp
          try with_reducible rfl
        try simp only [List.getElem_toArray, List.getElem_cons_zero, List.getElem_cons_succ, Act.put, List.setIfInBounds_toArray, List.set_cons_zero, List.set_cons_succ]
        refine wpAnyH_take (i := 12) (v := ?_) rfl (by kernel_rfl) (by kernel_rfl) (by kernel_rfl) (fun _ _ _ h => h) (Or.inl ⟨rfl, ?_⟩) (by assumption) ?_
        rotate_left
        · intro W hSw
          (try dsimp only at hSw)
          go_simp
          try with_reducible rfl
        try simp only [List.getElem_toArray, List.getElem_cons_zero, List.getElem_cons_succ, Act.put, List.setIfInBounds_toArray, List.set_cons_zero, List.set_cons_succ]
        refine wpAnyH_take (i := 13) (v := ?_) rfl (by kernel_rfl) (by kernel_rfl) (by kernel_rfl) (fun _ _ _ h => h) (Or.inl ⟨rfl, ?_⟩) (by assumption) ?_
        rotate_left
        · intro W hSw
          (try dsimp only at hSw)
          go_simp
          try with_reducible rfl
        try simp only [List.getElem_toArray, List.getElem_cons_zero, List.getElem_cons_succ, Act.put, List.setIfInBounds_toArray, List.set_cons_zero, List.set_cons_succ]
        refine wpAnyH_take (i := 14) (v := ?_) rfl (by kernel_rfl) (by kernel_rfl) (by kernel_rfl) (fun _ _ _ h => h) (Or.inl ⟨rfl, ?_⟩) (by assumption) ?_
        rotate_left
        · intro W hSw
          (try dsimp only at hSw)
          go_simp
          try with_reducible rfl
        try simp only [List.getElem_toArray, List.getElem_cons_zero, List.getElem_cons_succ, Act.put, List.setIfInBounds_toArray, List.set_cons_zero, List.set_cons_succ]
        refine wpAnyH_take (i := 15) (v := ?_) rfl (by kernel_rfl) (by kernel_rfl) (by kernel_rfl) (fun _ _ _ h => h) (Or.inl ⟨rfl, ?_⟩) (by assumption) ?_
        rotate_left
        · intro W hSw
          (try dsimp only at hSw)
          go_simp
          try with_reducible rfl
        try simp only [List.getElem_toArray, List.getElem_cons_zero, List.getElem_cons_succ, Act.put, List.setIfInBounds_toArray, List.set_cons_zero, List.set_cons_succ]
        refine wpAnyH_take (i := 16) (v := ?_) rfl (by kernel_rfl) (by kernel_rfl) (by kernel_rfl) (fun _ _ _ h => h) (Or.inl ⟨rfl, ?_⟩) (by assumption) ?_
        rotate_left
        · intro W hSw
          (try dsimp only at hSw)
          go_simp
          try with_reducible rfl
        try simp only [List.getElem_toArray, List.getElem_cons_zero, List.getElem_cons_succ, Act.put, List.setIfInBounds_toArray, List.set_cons_zero, List.set_cons_succ]
        refine wpAnyH_take (i := 17) (v := ?_) rfl (by kernel_rfl) (by kernel_rfl) (by kernel_rfl) (fun _ _ _ h => h) (Or.inl ⟨rfl, ?_⟩) (by assumption) ?_
        rotate_left
        · intro W hSw
          (try dsimp only at hSw)
          go_simp
          try with_reducible rfl
        try simp only [List.getElem_toArray, List.getElem_cons_zero, List.getElem_cons_succ, Act.put, List.setIfInBounds_toArray, List.set_cons_zero, List.set_cons_succ]
        refine wpAnyH_take (i := 18) (v := .agg (cellsB p)) rfl (by kernel_rfl) (by kernel_rfl) (by kernel_rfl) (fun _ _ _ h => h) (Or.inl ⟨rfl, ?_⟩) (by assumption) ?_
        · intro W hSw
          exact exec_load 48 (.tmp 89) rfl _ rfl _ hSw.2.2.2.2
        try simp only [List.getElem_toArray, List.getElem_cons_zero, List.getElem_cons_succ, Act.put, List.setIfInBounds_toArray, List.set_cons_zero, List.set_cons_succ]
        refine wpAnyH_take (i := 19) (v := .bool false) rfl (by kernel_rfl) (by kernel_rfl) (by kernel_rfl) (fun _ _ _ h => h) (Or.inl ⟨rfl, ?_⟩) (by assumption) ?_
        · intro W hSw
          exact exec_pgn (.tmp 79) (.tmp 90) 48 rfl _ _ rfl rfl _ (q1 W)
        try simp only [List.getElem_toArray, List.getElem_cons_zero, List.getElem_cons_succ, Act.put, List.setIfInBounds_toArray, List.set_cons_zero, List.set_cons_succ]
        refine wpAnyH_take (i := 20) (v := ?_) rfl (by kernel_rfl) (by kernel_rfl) (by kernel_rfl) (fun _ _ _ h => h) (Or.inl ⟨rfl, ?_⟩) (by assumption) ?_
        rotate_left
        · intro W hSw
          (try dsimp only at hSw)
          go_simp
          try with_reducible rfl
        try simp only [List.getElem_toArray, List.getElem_cons_zero, List.getElem_cons_succ, Act.put, List.setIfInBounds_toArray, List.set_cons_zero, List.set_cons_succ]
        refine wpAnyH_done (by kernel_rfl) ?_ _
        (try dsimp only [NoPanic])
        go_wp2_with fail
        go_roundw
        case rel => exact ⟨j + 1, by omega, by go_num, hB12.out.trans (hb20.mono hB12.out.size)⟩
        case measure => simp [intOf]; omega
      · obtain rfl : j = st.pn := by omega
        have r1 := (hR7.out.below hbr).c1
        have hfin := Lib.hid (hbW7.out.trans (hbr.mono hbW7.out.size))
        go_wp2_with fail
        go_ret
        exact ⟨rfl, hfin.out⟩
end Go.Proofs.Ytlgjlhgdpiipbaa
