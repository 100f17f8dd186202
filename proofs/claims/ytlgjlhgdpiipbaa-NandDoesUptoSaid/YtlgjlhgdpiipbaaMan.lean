import Derived.Test.YtlgjlhgdpiipbaaMai
/- begun. -/
namespace Go.Proofs.Ytlgjlhgdpiipbaa
open Go.RowKit
/-- The one event of begun. -/
theorem evS_one (w : World) (a b : Nat) (hb : Box w b 67 #[.int .i64 2, .int .i64 2, .slice (some ⟨a, 0, none⟩) 1 1]) (ha : Box w a 5 #[.int .u8 255]) (hab : a < b) : EvS w (fun x => x < w.heap.size) (.slice (some ⟨b, 0, none⟩) 1 1) [⟨2, 2, [255]⟩] := by
  refine ⟨some ⟨b, 0, none⟩, 1, rfl, Nat.le_refl _, fun j e he => ?_⟩
  match j, he with
  | 0, he =>
    cases he
    refine ⟨b, 0, _, rfl, hb.lt, hb.lt, hb.get 0 _ rfl, hb.get 1 _ rfl, hb.get 2 _ rfl, fun W' hW' => ?_⟩
    have ha' : Box W' a 5 #[.int .u8 255] := (hW'.1 a ha.lt).trans ha
    refine ⟨_, 1, rfl, Nat.le_refl _, fun i x hx => ?_⟩
    match i, hx with
    | 0, hx =>
      cases hx
      exact ⟨a, 0, rfl, ha'.lt, ha'.get 0 _ rfl⟩
theorem exec_load {P : Program} {ev : Operand → Value} {o : Oper} {W : World} (t : TypeId) (x : Operand) (ho : o.op = Op.load t x) (ad : Addr) (hx : ev x = .pointer (some ad)) (v : Value) (hl : (loadVar t ad).run P W = .ok v W) : (execOp ev o).run P W = .ok (.value v) W := by
  simp [execOp, ho, hx, Instr.loadAt, Instr.sureAddr, hl, Result.andThen]
theorem exec_pg {ev : Operand → Value} {o : Oper} {W : World} (x y : Operand) (t : TypeId) (ho : o.op = Op.binOp .eql 48 x y t) (xs ys : Array Value) (hx : ev x = .agg xs) (hy : ev y = .agg ys) (v : Value) (hl : (binOp .eql 48 (.agg xs) (.agg ys)).run Try.prog W = .ok v W) : (execOp ev o).run Try.prog W = .ok (.value v) W := by
  simp [execOp, ho, hx, hy, run_eqGuard_agg W .eql 48 x y xs ys guard48, hl, Result.andThen]
theorem intS_nil (w : World) (B : Nat) : IntS w B (.slice none 0 0) [] := ⟨none, 0, rfl, Nat.le_refl _, fun j x h => by simp at h⟩
set_option maxRecDepth 100000 in
set_option maxHeartbeats 8000000 in
theorem begun_any (w : World) : Calls Try.prog 12 #[] w (fun e w' => e = .returned (.bool true) ∧ Below w.heap.size w w') := by
  have hz := zero48
  have hb0 := (Below.refl w.heap.size w).alloc (Nat.le_refl _) (.cells #[.int .u8 255] 5)
  have ba := (Box.new w 5 #[.int .u8 255]).alloc (.cells #[.int .i64 2, .int .i64 2, .slice (some ⟨w.heap.size, 0, none⟩) 1 1] 67)
  have bb := Box.new (w.alloc (.cells #[.int .u8 255] 5)) 67 #[.int .i64 2, .int .i64 2, .slice (some ⟨w.heap.size, 0, none⟩) 1 1]
  replace hb0 := hb0.alloc hb0.size (.cells #[.int .i64 2, .int .i64 2, .slice (some ⟨w.heap.size, 0, none⟩) 1 1] 67)
  rw [World.size_alloc] at bb
  obtain ⟨W0, hW0⟩ : ∃ W0, (w.alloc (.cells #[.int .u8 255] 5)).alloc (.cells #[.int .i64 2, .int .i64 2, .slice (some ⟨w.heap.size, 0, none⟩) 1 1] 67) = W0 := ⟨_, rfl⟩
  rw [hW0] at hb0 ba bb
  have hnew := has_new 16 4 [] [⟨2, 2, [255]⟩] (.slice none 0 0) _ w W0 hb0 (by simp) (by simp) (intS_nil _ _) (evS_one W0 _ _ bb ba (by omega))
  rw [b_new] at hnew
  obtain ⟨f0, f1, f3⟩ := b_evs
  obtain ⟨o0, o1, o3⟩ := b_ops
  have hp1 := fun X c W (h : Has w W X c bSt0) => has_program h (fits_of f0) (by rw [o0]; decide) 0 0 (rep 288 1) (rep_len _ _)
  have hp2 := fun X c W (h : Has w W X c bSt1) => has_program h (fits_of f1) (by rw [o1]; decide) 0 1 (rep 288 2) (rep_len _ _)
  have hp3 := fun X c W (h : Has w W X c bSt3) => has_program h (fits_of f3) (by rw [o3]; decide) 0 1 (rep 288 2) (rep_len _ _)
  have hr := fun X c W (h : Has w W X c bSt2) => has_restart h
  have hr1 := fun X c W (h : Has w W X c bSt3) => has_read h 0 0
  have hr2 := fun X c W (h : Has w W X c bSt3) => has_read h 0 1
  have hop := fun X c W (h : Has w W X c bSt4) => has_ops h
  rw [b1, show (bSt0.program 0 0 (rep 288 1)).2 = bSt1 from rfl] at hp1
  rw [b2, show (bSt1.program 0 1 (rep 288 2)).2 = bSt2 from rfl] at hp2
  rw [b5, show (bSt3.program 0 1 (rep 288 2)).2 = bSt4 from rfl] at hp3
  have hr : ∀ X c W, Has w W X c bSt2 → Calls Try.prog 24 #[.pointer (some ⟨c, 0, none⟩)] W (HasRes w W X c (.int .i64 0) bSt3) := hr
  rw [b3] at hr1
  rw [b4] at hr2
  rw [b6] at hop
  have g1 := fun W => page_any 1 W
  have g2 := fun W => page_any 2 W
  have g255 := fun W => page_any 255 W
  have hl1 : (rep 288 1).length = 288 := rep_len _ _
  have hl255 : (rep 288 255).length = 288 := rep_len _ _
  obtain ⟨l1, hl⟩ : ∃ l, rep 288 1 = l := ⟨_, rfl⟩
  rw [hl] at hp1 hr1 g1 hl1
  clear hl
  obtain ⟨l2, hl⟩ : ∃ l, rep 288 2 = l := ⟨_, rfl⟩
  rw [hl] at hp2 hp3 g2
  clear hl
  obtain ⟨l3, hl⟩ : ∃ l, rep 288 255 = l := ⟨_, rfl⟩
  rw [hl] at hr2 g255 hl255
  clear hl
  unfold pgV at *
  replace hp1 := Lib.hid hp1
  replace hp2 := Lib.hid hp2
  replace hp3 := Lib.hid hp3
  replace hr := Lib.hid hr
  replace hr1 := Lib.hid hr1
  replace hr2 := Lib.hid hr2
  replace hop := Lib.hid hop
  replace g1 := Lib.hid g1
  replace g2 := Lib.hid g2
  replace g255 := Lib.hid g255
  replace hnew := Lib.hid hnew
  clear ba bb f0 f1 f3 o0 o1 o3 hb0
  go_enter Try.func12, Try.ntmps12
  go_wp2_with fail
  clear hW0
  refine hnew.out.mono ?_
  rintro e w2 ⟨hb2, c, rfl, hH⟩
  replace hH := Lib.hid (hH (fun _ => False) (fun _ h => h.elim))
  clear hnew hb2
  go_wp2_with fail
  refine (g1.out _).mono ?_
  rintro e w3 ⟨rfl, hb3⟩
  replace hH := Lib.hid (hH.out.below hb3)
  clear hb3
  go_wp2_with fail
  refine (hp1.out _ _ _ hH.out).mono ?_
  rintro e w4 ⟨rfl, hH4, _⟩
  replace hH := Lib.hid hH4
  clear hH4
  go_wp2_with fail
  refine (g2.out _).mono ?_
  rintro e w5 ⟨rfl, hb5⟩
  replace hH := Lib.hid (hH.out.below hb5)
  clear hb5
  go_wp2_with fail
  refine (hp2.out _ _ _ hH.out).mono ?_
  rintro e w6 ⟨rfl, hH6, _⟩
  replace hH := Lib.hid hH6
  clear hH6
  go_wp2_with fail
  refine (hr.out _ _ _ hH.out).mono ?_
  rintro e w7 ⟨rfl, hH7, _⟩
  replace hH := Lib.hid hH7
  clear hH7
  go_wp2_with fail
  refine (hr1.out _ _ _ hH.out).mono ?_
  rintro e w8 ⟨rfl, hb8⟩
  replace hH := Lib.hid (hH.out.below hb8)
  clear hb8
  have bx8 := Box.new w8 48 (cellsB (rep 288 0))
  obtain ⟨hst, bx9, hg9⟩ := bx8.storePg (l := l1) (by rw [cellsB_size, rep_len]) hl1
  have hH9 := (hH.out.add (Y := fun b => b = w8.heap.size) ((Below.refl w8.heap.size w8).alloc (Nat.le_refl _) (.cells (cellsB (rep 288 0)) 48)) (fun b hb => .inr ⟨by omega, by rw [World.size_alloc]; omega⟩)).own (b := w8.heap.size) rfl hH.out.bel.size hg9
  obtain ⟨w9, hw9⟩ : ∃ w9, (w8.alloc (.cells (cellsB (rep 288 0)) 48)).setRow w8.heap.size (cellsB l1) = w9 := ⟨_, rfl⟩
  rw [hw9] at hst bx9 hH9
  unfold pgV at hst
  replace bx9 := Lib.hid bx9
  have hw8 := Lib.hid hH.out.bel.size
  replace hH := Lib.hid hH9
  clear hH9 hg9 hw9 bx8
  go_wp2_with (refine wpList_store_var rfl 48 _ _ rfl _ rfl _ rfl hst ?_)
  clear hst
  refine (hr2.out _ _ _ hH.out).mono ?_
  rintro e w10 ⟨rfl, hb10⟩
  have bx10 := bx9.out.below hb10
  replace hH := Lib.hid (hH.out.below hb10)
  clear hb10 bx9
  have bz := Box.new w10 48 (cellsB (rep 288 0))
  obtain ⟨hst, by11, hg11⟩ := bz.storePg (l := l3) (by rw [cellsB_size, rep_len]) hl255
  have hne : w8.heap.size ≠ w10.heap.size := by have := bx10.lt; omega
  have bx11 := (bx10.alloc (.cells (cellsB (rep 288 0)) 48)).grown hg11 (by simpa using hne)
  have hH11 := (hH.out.add (Y := fun b => b = w8.heap.size ∨ b = w10.heap.size) ((Below.refl w10.heap.size w10).alloc (Nat.le_refl _) (.cells (cellsB (rep 288 0)) 48)) (fun b hb => by rcases hb with hb | hb; exact .inl hb; exact .inr ⟨by omega, by rw [World.size_alloc]; omega⟩)).own (b := w10.heap.size) (.inr rfl) hH.out.bel.size hg11
  obtain ⟨w11, hw11⟩ : ∃ w11, (w10.alloc (.cells (cellsB (rep 288 0)) 48)).setRow w10.heap.size (cellsB l3) = w11 := ⟨_, rfl⟩
  rw [hw11] at hst by11 bx11 hH11
  unfold pgV at hst
  replace bx11 := Lib.hid bx11
  replace by11 := Lib.hid by11
  replace hH := Lib.hid hH11
  clear hH11 hg11 hw11 bz bx10 hne
  go_upto_region 6 with (refine wpList_store_var rfl 48 _ _ rfl _ rfl _ rfl hst ?_)
  clear hst
  have hS := Lib.hid (show ∀ W : World, Box W w8.heap.size 48 (cellsB l1) → Box W w10.heap.size 48 (cellsB l3) → (fun W => (loadVar 48 ⟨w8.heap.size, 0, none⟩).run Try.prog W = .ok (.agg (cellsB l1)) W ∧ (loadVar 48 ⟨w10.heap.size, 0, none⟩).run Try.prog W = .ok (.agg (cellsB l3)) W) W from fun W h1 h2 => ⟨h1.loadPg hl1, h2.loadPg hl255⟩)
  have q1 : ∀ W, (binOp .eql 48 (.agg (cellsB l1)) (.agg (cellsB l1))).run Try.prog W = .ok (.bool true) W := fun W => by have := pg_eql l1 l1 hl1 hl1 W; unfold pgV at this; rw [this]; simp
  have q3 : ∀ W, (binOp .eql 48 (.agg (cellsB l3)) (.agg (cellsB l3))).run Try.prog W = .ok (.bool true) W := fun W => by have := pg_eql l3 l3 hl255 hl255 W; unfold pgV at this; rw [this]; simp
  clear hl1 hl255 hz
  refine wp_region_noPanic ?_
  refine wp_region_held_drew (S := fun W => (loadVar 48 ⟨w8.heap.size, 0, none⟩).run Try.prog W = .ok (.agg (cellsB l1)) W ∧ (loadVar 48 ⟨w10.heap.size, 0, none⟩).run Try.prog W = .ok (.agg (cellsB l3)) W) (by kernel_rfl) (hS.out _ bx11.out.drew by11.out.drew) (fun hHeld => ?_)
  refine wpAnyH_take (i := 0) (v := ?_) rfl (by kernel_rfl) (by kernel_rfl) (by kernel_rfl) (fun _ _ _ h => h) (Or.inl ⟨rfl, ?_⟩) (by assumption) ?_
  rotate_left
  · intro W hSw
    (try dsimp only at hSw)
    go_simp
    try with_reducible rfl
  try simp only [List.getElem_toArray, List.getElem_cons_zero, List.getElem_cons_succ, Act.put, List.setIfInBounds_toArray, List.set_cons_zero, List.set_cons_succ]
  refine wpAnyH_take (i := 1) (v := ?_) rfl (by kernel_rfl) (by kernel_rfl) (by kernel_rfl) (fun _ _ _ h => h) (Or.inl ⟨rfl, ?_⟩) (by assumption) ?_
  rotate_left
  · intro W hSw
    (try dsimp only at hSw)
    go_simp
    try with_reducible rfl
  try simp only [List.getElem_toArray, List.getElem_cons_zero, List.getElem_cons_succ, Act.put, List.setIfInBounds_toArray, List.set_cons_zero, List.set_cons_succ]
  refine wpAnyH_take (i := 2) (v := ?_) rfl (by kernel_rfl) (by kernel_rfl) (by kernel_rfl) (fun _ _ _ h => h) (Or.inl ⟨rfl, ?_⟩) (by assumption) ?_
  rotate_left
  · intro W hSw
    (try dsimp only at hSw)
    go_simp
    try with_reducible rfl
  try simp only [List.getElem_toArray, List.getElem_cons_zero, List.getElem_cons_succ, Act.put, List.setIfInBounds_toArray, List.set_cons_zero, List.set_cons_succ]
  refine wpAnyH_take (i := 3) (v := ?_) rfl (by kernel_rfl) (by kernel_rfl) (by kernel_rfl) (fun _ _ _ h => h) (Or.inl ⟨rfl, ?_⟩) (by assumption) ?_
  rotate_left
  · intro W hSw
    (try dsimp only at hSw)
    go_simp
    try with_reducible rfl
  try simp only [List.getElem_toArray, List.getElem_cons_zero, List.getElem_cons_succ, Act.put, List.setIfInBounds_toArray, List.set_cons_zero, List.set_cons_succ]
  refine wpAnyH_take (i := 4) (v := ?_) rfl (by kernel_rfl) (by kernel_rfl) (by kernel_rfl) (fun _ _ _ h => h) (Or.inl ⟨rfl, ?_⟩) (by assumption) ?_
  rotate_left
  · intro W hSw
    (try dsimp only at hSw)
    go_simp
    try with_reducible rfl
  try simp only [List.getElem_toArray, List.getElem_cons_zero, List.getElem_cons_succ, Act.put, List.setIfInBounds_toArray, List.set_cons_zero, List.set_cons_succ]
  refine wpAnyH_take (i := 5) (v := ?_) rfl (by kernel_rfl) (by kernel_rfl) (by kernel_rfl) (fun _ _ _ h => h) (Or.inl ⟨rfl, ?_⟩) (by assumption) ?_
  rotate_left
  · intro W hSw
    (try dsimp only at hSw)
    go_simp
    try with_reducible rfl
  try simp only [List.getElem_toArray, List.getElem_cons_zero, List.getElem_cons_succ, Act.put, List.setIfInBounds_toArray, List.set_cons_zero, List.set_cons_succ]
  refine wpAnyH_take (i := 6) (v := ?_) rfl (by kernel_rfl) (by kernel_rfl) (by kernel_rfl) (fun _ _ _ h => h) (Or.inl ⟨rfl, ?_⟩) (by assumption) ?_
  rotate_left
  · intro W hSw
    (try dsimp only at hSw)
    go_simp
    try with_reducible rfl
  try simp only [List.getElem_toArray, List.getElem_cons_zero, List.getElem_cons_succ, Act.put, List.setIfInBounds_toArray, List.set_cons_zero, List.set_cons_succ]
  refine wpAnyH_take (i := 7) (v := .agg (cellsB l1)) rfl (by kernel_rfl) (by kernel_rfl) (by kernel_rfl) (fun _ _ _ h => h) (Or.inl ⟨rfl, ?_⟩) (by assumption) ?_
  · intro W hSw
    exact exec_load 48 (.tmp 3) rfl _ rfl _ hSw.1
  try simp only [List.getElem_toArray, List.getElem_cons_zero, List.getElem_cons_succ, Act.put, List.setIfInBounds_toArray, List.set_cons_zero, List.set_cons_succ]
  refine wpAnyH_ready (rs := [8]) (by kernel_rfl) (by simp) (AllReadyH.cons rfl (fun K hK => ?_) AllReadyH.nil)
  go_simp
  refine (g1.out _).mono ?_
  rintro e w12 ⟨rfl, hb⟩
  have hb : Below w11.heap.size w11 w12 := ⟨hb.os, hb.tape, hb.output, hb.size, hb.block⟩
  have bx12 := Lib.hid (bx11.out.below hb)
  have by12 := Lib.hid (by11.out.below hb)
  have hH12 := Lib.hid (hH.out.below hb)
  clear hb
  refine hK.out _ _ (hS.out _ bx12.out by12.out) (fun hHeld => ?_)
  clear hK
  try simp only [List.getElem_toArray, List.getElem_cons_zero, List.getElem_cons_succ, Act.put, List.setIfInBounds_toArray, List.set_cons_zero, List.set_cons_succ]
  refine wpAnyH_take (i := 9) (v := .bool true) rfl (by kernel_rfl) (by kernel_rfl) (by kernel_rfl) (fun _ _ _ h => h) (Or.inl ⟨rfl, ?_⟩) (by assumption) ?_
  · intro W hSw
    exact exec_pg (.tmp 54) (.tmp 55) 48 rfl _ _ rfl rfl _ (q1 W)
  try simp only [List.getElem_toArray, List.getElem_cons_zero, List.getElem_cons_succ, Act.put, List.setIfInBounds_toArray, List.set_cons_zero, List.set_cons_succ]
  refine wpAnyH_take (i := 10) (v := ?_) rfl (by kernel_rfl) (by kernel_rfl) (by kernel_rfl) (fun _ _ _ h => h) (Or.inl ⟨rfl, ?_⟩) (by assumption) ?_
  rotate_left
  · intro W hSw
    (try dsimp only at hSw)
    go_simp
    try with_reducible rfl
  try simp only [List.getElem_toArray, List.getElem_cons_zero, List.getElem_cons_succ, Act.put, List.setIfInBounds_toArray, List.set_cons_zero, List.set_cons_succ]
  refine wpAnyH_take (i := 11) (v := ?_) rfl (by kernel_rfl) (by kernel_rfl) (by kernel_rfl) (fun _ _ _ h => h) (Or.inl ⟨rfl, ?_⟩) (by assumption) ?_
  rotate_left
  · intro W hSw
    (try dsimp only at hSw)
    go_simp
    try with_reducible rfl
  try simp only [List.getElem_toArray, List.getElem_cons_zero, List.getElem_cons_succ, Act.put, List.setIfInBounds_toArray, List.set_cons_zero, List.set_cons_succ]
  refine wpAnyH_take (i := 12) (v := .agg (cellsB l3)) rfl (by kernel_rfl) (by kernel_rfl) (by kernel_rfl) (fun _ _ _ h => h) (Or.inl ⟨rfl, ?_⟩) (by assumption) ?_
  · intro W hSw
    exact exec_load 48 (.tmp 4) rfl _ rfl _ hSw.2
  try simp only [List.getElem_toArray, List.getElem_cons_zero, List.getElem_cons_succ, Act.put, List.setIfInBounds_toArray, List.set_cons_zero, List.set_cons_succ]
  refine wpAnyH_ready (rs := [13]) (by kernel_rfl) (by simp) (AllReadyH.cons rfl (fun K hK => ?_) AllReadyH.nil)
  go_simp
  refine (g255.out _).mono ?_
  rintro e w13 ⟨rfl, hb⟩
  have hb : Below w12.heap.size w12 w13 := ⟨hb.os, hb.tape, hb.output, hb.size, hb.block⟩
  have bx13 := Lib.hid (bx12.out.below hb)
  have by13 := Lib.hid (by12.out.below hb)
  have hH13 := Lib.hid (hH12.out.below hb)
  clear hb
  refine hK.out _ _ (hS.out _ bx13.out by13.out) (fun hHeld => ?_)
  clear hK
  try simp only [List.getElem_toArray, List.getElem_cons_zero, List.getElem_cons_succ, Act.put, List.setIfInBounds_toArray, List.set_cons_zero, List.set_cons_succ]
  refine wpAnyH_take (i := 14) (v := .bool true) rfl (by kernel_rfl) (by kernel_rfl) (by kernel_rfl) (fun _ _ _ h => h) (Or.inl ⟨rfl, ?_⟩) (by assumption) ?_
  · intro W hSw
    exact exec_pg (.tmp 59) (.tmp 60) 48 rfl _ _ rfl rfl _ (q3 W)
  try simp only [List.getElem_toArray, List.getElem_cons_zero, List.getElem_cons_succ, Act.put, List.setIfInBounds_toArray, List.set_cons_zero, List.set_cons_succ]
  refine wpAnyH_take (i := 15) (v := ?_) rfl (by kernel_rfl) (by kernel_rfl) (by kernel_rfl) (fun _ _ _ h => h) (Or.inl ⟨rfl, ?_⟩) (by assumption) ?_
  rotate_left
  · intro W hSw
    (try dsimp only at hSw)
    go_simp
    try with_reducible rfl
  try simp only [List.getElem_toArray, List.getElem_cons_zero, List.getElem_cons_succ, Act.put, List.setIfInBounds_toArray, List.set_cons_zero, List.set_cons_succ]
  refine wpAnyH_take (i := 16) (v := ?_) rfl (by kernel_rfl) (by kernel_rfl) (by kernel_rfl) (fun _ _ _ h => h) (Or.inl ⟨rfl, ?_⟩) (by assumption) ?_
  rotate_left
  · intro W hSw
    (try dsimp only at hSw)
    go_simp
    try with_reducible rfl
  try simp only [List.getElem_toArray, List.getElem_cons_zero, List.getElem_cons_succ, Act.put, List.setIfInBounds_toArray, List.set_cons_zero, List.set_cons_succ]
  refine wpAnyH_take (i := 17) (v := ?_) rfl (by kernel_rfl) (by kernel_rfl) (by kernel_rfl) (fun _ _ _ h => h) (Or.inl ⟨rfl, ?_⟩) (by assumption) ?_
  rotate_left
  · intro W hSw
    (try dsimp only at hSw)
    go_simp
    try with_reducible rfl
  try simp only [List.getElem_toArray, List.getElem_cons_zero, List.getElem_cons_succ, Act.put, List.setIfInBounds_toArray, List.set_cons_zero, List.set_cons_succ]
  refine wpAnyH_ready (rs := [18]) (by kernel_rfl) (by simp) (AllReadyH.cons rfl (fun K hK => ?_) AllReadyH.nil)
  go_simp
  refine (g2.out _).mono ?_
  rintro e w14 ⟨rfl, hb⟩
  have hb : Below w13.heap.size w13 w14 := ⟨hb.os, hb.tape, hb.output, hb.size, hb.block⟩
  have bx14 := Lib.hid (bx13.out.below hb)
  have by14 := Lib.hid (by13.out.below hb)
  have hH14 := Lib.hid (hH13.out.below hb)
  clear hb
  refine hK.out _ _ (hS.out _ bx14.out by14.out) (fun hHeld => ?_)
  clear hK
  try simp only [List.getElem_toArray, List.getElem_cons_zero, List.getElem_cons_succ, Act.put, List.setIfInBounds_toArray, List.set_cons_zero, List.set_cons_succ]
  refine wpAnyH_ready (rs := [19]) (by kernel_rfl) (by simp) (AllReadyH.cons rfl (fun K hK => ?_) AllReadyH.nil)
  go_simp
  refine (hp3.out _ _ _ hH14.out).mono ?_
  rintro e w15 ⟨rfl, hH15, hsm⟩
  have bx15 := bx14.out.same hsm (.inl rfl)
  have by15 := by14.out.same hsm (.inr rfl)
  replace hH15 := Lib.hid hH15
  replace bx15 := Lib.hid bx15
  replace by15 := Lib.hid by15
  clear hsm
  refine hK.out _ _ (hS.out _ bx15.out by15.out) (fun hHeld => ?_)
  clear hK
  try simp only [List.getElem_toArray, List.getElem_cons_zero, List.getElem_cons_succ, Act.put, List.setIfInBounds_toArray, List.set_cons_zero, List.set_cons_succ]
  refine wpAnyH_take (i := 20) (v := ?_) rfl (by kernel_rfl) (by kernel_rfl) (by kernel_rfl) (fun _ _ _ h => h) (Or.inl ⟨rfl, ?_⟩) (by assumption) ?_
  rotate_left
  · intro W hSw
    (try dsimp only at hSw)
    go_simp
    try with_reducible rfl
  try simp only [List.getElem_toArray, List.getElem_cons_zero, List.getElem_cons_succ, Act.put, List.setIfInBounds_toArray, List.set_cons_zero, List.set_cons_succ]
  refine wpAnyH_take (i := 21) (v := ?_) rfl (by kernel_rfl) (by kernel_rfl) (by kernel_rfl) (fun _ _ _ h => h) (Or.inl ⟨rfl, ?_⟩) (by assumption) ?_
  rotate_left
  · intro W hSw
    (try dsimp only at hSw)
    go_simp
    try with_reducible rfl
  try simp only [List.getElem_toArray, List.getElem_cons_zero, List.getElem_cons_succ, Act.put, List.setIfInBounds_toArray, List.set_cons_zero, List.set_cons_succ]
  refine wpAnyH_take (i := 22) (v := ?_) rfl (by kernel_rfl) (by kernel_rfl) (by kernel_rfl) (fun _ _ _ h => h) (Or.inl ⟨rfl, ?_⟩) (by assumption) ?_
  rotate_left
  · intro W hSw
    (try dsimp only at hSw)
    go_simp
    try with_reducible rfl
  try simp only [List.getElem_toArray, List.getElem_cons_zero, List.getElem_cons_succ, Act.put, List.setIfInBounds_toArray, List.set_cons_zero, List.set_cons_succ]
  refine wpAnyH_take (i := 23) (v := ?_) rfl (by kernel_rfl) (by kernel_rfl) (by kernel_rfl) (fun _ _ _ h => h) (Or.inl ⟨rfl, ?_⟩) (by assumption) ?_
  rotate_left
  · intro W hSw
    (try dsimp only at hSw)
    go_simp
    try with_reducible rfl
  try simp only [List.getElem_toArray, List.getElem_cons_zero, List.getElem_cons_succ, Act.put, List.setIfInBounds_toArray, List.set_cons_zero, List.set_cons_succ]
  refine wpAnyH_ready (rs := [24]) (by kernel_rfl) (by simp) (AllReadyH.cons rfl (fun K hK => ?_) AllReadyH.nil)
  go_simp
  refine (hop.out _ _ _ hH15.out).mono ?_
  rintro e w16 ⟨rfl, hw⟩
  obtain rfl := hw
  refine hK.out _ _ (hS.out _ bx15.out by15.out) (fun hHeld => ?_)
  clear hK
  try simp only [List.getElem_toArray, List.getElem_cons_zero, List.getElem_cons_succ, Act.put, List.setIfInBounds_toArray, List.set_cons_zero, List.set_cons_succ]
  refine wpAnyH_take (i := 25) (v := ?_) rfl (by kernel_rfl) (by kernel_rfl) (by kernel_rfl) (fun _ _ _ h => h) (Or.inl ⟨rfl, ?_⟩) (by assumption) ?_
  rotate_left
  · intro W hSw
    (try dsimp only at hSw)
    go_simp
    try with_reducible rfl
  try simp only [List.getElem_toArray, List.getElem_cons_zero, List.getElem_cons_succ, Act.put, List.setIfInBounds_toArray, List.set_cons_zero, List.set_cons_succ]
  refine wpAnyH_take (i := 26) (v := ?_) rfl (by kernel_rfl) (by kernel_rfl) (by kernel_rfl) (fun _ _ _ h => h) (Or.inl ⟨rfl, ?_⟩) (by assumption) ?_
  rotate_left
  · intro W hSw
    (try dsimp only at hSw)
    go_simp
    try with_reducible rfl
  try simp only [List.getElem_toArray, List.getElem_cons_zero, List.getElem_cons_succ, Act.put, List.setIfInBounds_toArray, List.set_cons_zero, List.set_cons_succ]
  refine wpAnyH_take (i := 27) (v := ?_) rfl (by kernel_rfl) (by kernel_rfl) (by kernel_rfl) (fun _ _ _ h => h) (Or.inl ⟨rfl, ?_⟩) (by assumption) ?_
  rotate_left
  · intro W hSw
    (try dsimp only at hSw)
    go_simp
    try with_reducible rfl
  try simp only [List.getElem_toArray, List.getElem_cons_zero, List.getElem_cons_succ, Act.put, List.setIfInBounds_toArray, List.set_cons_zero, List.set_cons_succ]
  refine wpAnyH_done (by kernel_rfl) ?_ _
  (try dsimp only [NoPanic])
  go_wp2_with fail
  go_ret
  exact ⟨rfl, hH15.out.bel⟩
end Go.Proofs.Ytlgjlhgdpiipbaa
