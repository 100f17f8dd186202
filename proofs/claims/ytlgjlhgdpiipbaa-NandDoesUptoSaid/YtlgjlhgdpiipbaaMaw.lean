import Derived.Test.YtlgjlhgdpiipbaaMav
/- The law's must: what the document says of a call. -/
namespace Go.Proofs.Ytlgjlhgdpiipbaa
open Go.RowKit
theorem RefR.grown_out {W W' : World} {Fm Fr : Nat → Prop} {c : Nat} {st : Chip} {L : RLay} (h : RefR W Fm Fr c st L) {b : Nat} (hg : W.grownBy W' (some b)) (hb : ¬ Fm b ∧ ¬ Fr b) : RefR W' Fm Fr c st L :=
  h.same ⟨fun x hx => hg.block x (by rcases hx with hx | hx; exact h.ltm x hx; exact h.ltr x hx) (fun e => by cases e; rcases hx with hx | hx; exact hb.1 hx; exact hb.2 hx), hg.size⟩
def RDoRes (Fm Fr : Nat → Prop) (c : Nat) (r : (List UInt8 × Int) × Chip) (w : World) (e : Ending) (w' : World) : Prop :=
  ∃ Fm' L', e = .returned (.tuple #[pgV r.1.1, .int .i64 r.1.2]) ∧ RefR w' Fm' Fr c r.2 L' ∧ Kept Fm w w' ∧ ∀ x, Fm' x → Fm x ∨ w.heap.size ≤ x
theorem rdoRes_mk {Fm Fr Fm' : Nat → Prop} {c : Nat} {r : (List UInt8 × Int) × Chip} {w w' : World} {L' : RLay} {l : List UInt8} {n : Int} {st' : Chip} (h : r = ((l, n), st')) {v : Value} (hv : v = .tuple #[pgV l, .int .i64 n]) (hC : RefR w' Fm' Fr c st' L') (hk : Kept Fm w w') (hF : ∀ x, Fm' x → Fm x ∨ w.heap.size ≤ x) : RDoRes Fm Fr c r w (.returned v) w' := by
  subst h; subst hv; exact ⟨Fm', L', rfl, hC, hk, hF⟩
set_option maxRecDepth 100000 in
theorem res28 {W : World} {b : Nat} {t : TypeId} {l : List UInt8} {n : Int} (h : Box W b t (cellsB l)) (hl : l.length = 288) {tmps : Array Value} (h4 : tmps.getD 4 undef = .pointer (some ⟨b, 0, none⟩)) (h5 : tmps.getD 5 undef = .int .i64 n) :
    (results Try.f28 tmps).run Try.prog W = .ok (.tuple #[pgV l, .int .i64 n]) W := by
  have h3 := h.loadPg hl
  simp at h4 h5
  simp [results, Try.results28, asAddr, h4, h5, h3]
/-- The page is laid into the result's box, behind any call. -/
theorem rop_end {w W1 w4 w5 : World} {Fm Fm' Fr : Nat → Prop} {c : Nat} {st' : Chip} {L' : RLay} {vs : Array Value} {l0 l : List UInt8} (hn1 : ∀ b, w.heap.size ≤ b → ¬ Fm b) (hn2 : ∀ b, w.heap.size ≤ b → ¬ Fr b) (hl0 : l0.length = 288) (hB1 : Below w.heap.size w W1)
    (gb : Box w4 w.heap.size 40 vs) (pb : Box w4 (w.heap.size + 1) 48 (cellsB l0)) (hB4 : Below w.heap.size w w4) (hC5 : RefR w5 Fm' Fr c st' L') (hk5 : Kept Fm w4 w5) (hF5 : ∀ x, Fm' x → Fm x ∨ w4.heap.size ≤ x) (hl : l.length = 288) :
    (storeVar 48 ⟨w.heap.size + 1, 0, none⟩ (pgV l)).run Try.prog w5 = .ok () (w5.setRow (w.heap.size + 1) (cellsB l)) ∧ Box (w5.setRow (w.heap.size + 1) (cellsB l)) (w.heap.size + 1) 48 (cellsB l) ∧ RefR (w5.setRow (w.heap.size + 1) (cellsB l)) Fm' Fr c st' L' ∧
      Kept Fm w (w5.setRow (w.heap.size + 1) (cellsB l)) ∧ (∀ x, Fm' x → Fm x ∨ w.heap.size ≤ x) ∧ Box (w5.setRow (w.heap.size + 1) (cellsB l)) w.heap.size 40 vs ∧ Box w5 w.heap.size 40 vs := by
  have pb5 := pb.kept hk5 (hn1 _ (by omega))
  have gb5 := gb.kept hk5 (hn1 _ (Nat.le_refl _))
  obtain ⟨h1, h2, h3⟩ := pb5.storePg (l := l) (by rw [cellsB_size, hl0]) hl
  have hlt := pb.lt
  have hk : Kept Fm w w5 := (Kept.of_below (F := Fm) hB4).trans hk5 (fun _ hb => .inl hb)
  refine ⟨h1, h2, hC5.grown_out h3 ⟨fun hf => ?_, hn2 _ (by omega)⟩, hk.grown_new h3 (by omega), fun x hx => ?_, gb5.grown h3 (by simp), gb5⟩
  · rcases hF5 _ hf with h | h
    · exact hn1 _ (by omega) h
    · omega
  · rcases hF5 x hx with h | h
    · exact .inl h
    · exact .inr (Nat.le_trans hB4.size h)
theorem rreadAt_len {W : World} {Fm Fr : Nat → Prop} {c : Nat} {st : Chip} {L : RLay} (h : RefR W Fm Fr c st L) (n p : Int) : (st.readAt n p).1.length = 288 := by
  unfold Chip.readAt
  split
  · rename_i h0
    obtain ⟨_, _, i, j, rfl, hi, rfl, hj⟩ := Chip.asks_ok h0
    exact h.len i hi j hj
  · exact rep_len _ _
set_option maxRecDepth 100000 in
set_option maxHeartbeats 8000000 in
theorem must_any {Fm Fr : Nat → Prop} {c : Nat} {st : Chip} {L : RLay} {w : World} (h : RefR w Fm Fr c st L) (hf : st.fits) (hks : st.kinds) (ho : st.ops < 1000000) (hwe : ∀ i, i < st.bn → 0 ≤ (st.blk i).look.wear ∧ (st.blk i).look.wear < 1000000) (o : Cl) :
    Calls Try.prog 28 #[.pointer (some ⟨c, 0, none⟩), clV o] w (RDoRes Fm Fr c (st.does o) w) := by
  obtain ⟨d, n, p, nx, fl⟩ := o
  unfold clV
  dsimp only
  have hz := zero48
  have hnew : (∀ b, w.heap.size ≤ b → ¬ Fm b) ∧ (∀ b, w.heap.size ≤ b → ¬ Fr b) ∧ (rep 288 0).length = 288 := ⟨fun b hb => (h.new hb).1, fun b hb => (h.new hb).2, rep_len _ _⟩
  have gb := (Box.new w 40 #[.int .i64 d, .int .i64 n, .int .i64 p, .bool nx, .int .u8 fl.toNat]).alloc (.cells (cellsB (rep 288 0)) 48)
  have pb := Box.new (w.alloc (.cells #[.int .i64 d, .int .i64 n, .int .i64 p, .bool nx, .int .u8 fl.toNat] 40)) 48 (cellsB (rep 288 0))
  rw [World.size_alloc] at pb
  have hB1 := (Below.refl w.heap.size w).alloc (Nat.le_refl _) (.cells #[.int .i64 d, .int .i64 n, .int .i64 p, .bool nx, .int .u8 fl.toNat] 40)
  replace hB1 := hB1.alloc hB1.size (.cells (cellsB (rep 288 0)) 48)
  have hC1 : RefR _ Fm Fr c st L := h.same ⟨fun b hb => hB1.block b (by rcases hb with hb | hb; exact h.ltm b hb; exact h.ltr b hb), hB1.size⟩
  obtain ⟨W1, hW1⟩ : ∃ W1, (w.alloc (.cells #[.int .i64 d, .int .i64 n, .int .i64 p, .bool nx, .int .u8 fl.toNat] 40)).alloc (.cells (cellsB (rep 288 0)) 48) = W1 := ⟨_, rfl⟩
  rw [hW1] at gb pb hB1 hC1
  replace hC1 := Lib.hid hC1
  replace h := Lib.hid h
  have g0 := gb.get 0 _ rfl
  have g1 := gb.get 1 _ rfl
  have g2 := gb.get 2 _ rfl
  have g3 := gb.get 3 _ rfl
  have g4 := gb.get 4 _ rfl
  replace gb := Lib.hid gb
  replace pb := Lib.hid pb
  replace hB1 := Lib.hid hB1
  cases nx with
  | false =>
    have hpo := Lib.hid (show st.pageOf ⟨d, n, p, false, fl⟩ = p from rfl)
    go_enter Try.func28, Try.ntmps28
    go_upto_region 4 with fail
    by_cases e0 : d = 0
    · subst e0
      have hdo := Lib.hid (show st.does (⟨0, n, p, false, fl⟩ : Cl) = ((rep 288 0, (st.program n p (rep 288 fl)).1), (st.program n p (rep 288 fl)).2) from by unfold Chip.does; dsimp only; rw [if_pos rfl, hpo.out])
      have hpg := Lib.hid (fun W => page_any fl W)
      have hprog := Lib.hid (fun W (hW : Below W1.heap.size W1 W) => rprogram_any (hC1.out.below hW) hf hks ho n p (rep 288 fl) (rep_len _ _))
      have hS := Lib.hid (show ∀ W : World, Box W w.heap.size 40 #[.int .i64 0, .int .i64 n, .int .i64 p, .bool false, .int .u8 fl.toNat] → (fun W => W.cell? ⟨w.heap.size, 1, none⟩ = some (.int .i64 n) ∧ W.cell? ⟨w.heap.size, 2, none⟩ = some (.int .i64 p) ∧ W.cell? ⟨w.heap.size, 4, none⟩ = some (.int .u8 fl.toNat)) W from fun W h => ⟨h.get 1 _ rfl, h.get 2 _ rfl, h.get 4 _ rfl⟩)
      go_upto_region 6 with fail
      clear g0 g1 g2 g3 g4
      refine wp_region_noPanic ?_
      refine wp_region_held_drew (S := fun W => W.cell? ⟨w.heap.size, 1, none⟩ = some (.int .i64 n) ∧ W.cell? ⟨w.heap.size, 2, none⟩ = some (.int .i64 p) ∧ W.cell? ⟨w.heap.size, 4, none⟩ = some (.int .u8 fl.toNat)) (by kernel_rfl) (hS.out _ gb.out.drew) (fun hHeld => ?_)
      refine wpAnyH_take (i := 0) (v := ?_) rfl (by kernel_rfl) (by kernel_rfl) (by kernel_rfl) (fun _ _ _ h => h) (Or.inl ⟨rfl, ?_⟩) (by assumption) ?_
      rotate_left
      · intro W hSw
        (try dsimp only at hSw)
        go_simp
        try with_reducible rfl
      try simp only [List.getElem_toArray, List.getElem_cons_zero, List.getElem_cons_succ, Act.put, List.setIfInBounds_toArray, List.set_cons_zero, List.set_cons_succ]
      refine wpAnyH_take (i := 1) (v := ?_) rfl (by kernel_rfl) (by kernel_rfl) (by kernel_rfl) (fun _ _ _ h => h) (Or.inl ⟨rfl, ?_⟩) (by assumption) ?_
      rotate_left
      · intro W hSw
        (try dsimp only at hSw)
        go_simp
        try with_reducible rfl
      try simp only [List.getElem_toArray, List.getElem_cons_zero, List.getElem_cons_succ, Act.put, List.setIfInBounds_toArray, List.set_cons_zero, List.set_cons_succ]
      refine wpAnyH_take (i := 2) (v := ?_) rfl (by kernel_rfl) (by kernel_rfl) (by kernel_rfl) (fun _ _ _ h => h) (Or.inl ⟨rfl, ?_⟩) (by assumption) ?_
      rotate_left
      · intro W hSw
        (try dsimp only at hSw)
        go_simp
        try with_reducible rfl
      try simp only [List.getElem_toArray, List.getElem_cons_zero, List.getElem_cons_succ, Act.put, List.setIfInBounds_toArray, List.set_cons_zero, List.set_cons_succ]
      refine wpAnyH_take (i := 3) (v := ?_) rfl (by kernel_rfl) (by kernel_rfl) (by kernel_rfl) (fun _ _ _ h => h) (Or.inl ⟨rfl, ?_⟩) (by assumption) ?_
      rotate_left
      · intro W hSw
        (try dsimp only at hSw)
        go_simp
        try with_reducible rfl
      try simp only [List.getElem_toArray, List.getElem_cons_zero, List.getElem_cons_succ, Act.put, List.setIfInBounds_toArray, List.set_cons_zero, List.set_cons_succ]
      refine wpAnyH_take (i := 4) (v := ?_) rfl (by kernel_rfl) (by kernel_rfl) (by kernel_rfl) (fun _ _ _ h => h) (Or.inl ⟨rfl, ?_⟩) (by assumption) ?_
      rotate_left
      · intro W hSw
        (try dsimp only at hSw)
        go_simp
        try with_reducible rfl
      try simp only [List.getElem_toArray, List.getElem_cons_zero, List.getElem_cons_succ, Act.put, List.setIfInBounds_toArray, List.set_cons_zero, List.set_cons_succ]
      refine wpAnyH_take (i := 5) (v := ?_) rfl (by kernel_rfl) (by kernel_rfl) (by kernel_rfl) (fun _ _ _ h => h) (Or.inl ⟨rfl, ?_⟩) (by assumption) ?_
      rotate_left
      · intro W hSw
        (try dsimp only at hSw)
        go_simp
        try with_reducible rfl
      try simp only [List.getElem_toArray, List.getElem_cons_zero, List.getElem_cons_succ, Act.put, List.setIfInBounds_toArray, List.set_cons_zero, List.set_cons_succ]
      refine wpAnyH_take (i := 6) (v := ?_) rfl (by kernel_rfl) (by kernel_rfl) (by kernel_rfl) (fun _ _ _ h => h) (Or.inl ⟨rfl, ?_⟩) (by assumption) ?_
      rotate_left
      · intro W hSw
        (try dsimp only at hSw)
        go_simp
        try with_reducible rfl
      try simp only [List.getElem_toArray, List.getElem_cons_zero, List.getElem_cons_succ, Act.put, List.setIfInBounds_toArray, List.set_cons_zero, List.set_cons_succ]
      refine wpAnyH_take (i := 7) (v := ?_) rfl (by kernel_rfl) (by kernel_rfl) (by kernel_rfl) (fun _ _ _ h => h) (Or.inl ⟨rfl, ?_⟩) (by assumption) ?_
      rotate_left
      · intro W hSw
        (try dsimp only at hSw)
        go_simp
        try with_reducible rfl
      try simp only [List.getElem_toArray, List.getElem_cons_zero, List.getElem_cons_succ, Act.put, List.setIfInBounds_toArray, List.set_cons_zero, List.set_cons_succ]
      refine wpAnyH_ready (rs := [8]) (by kernel_rfl) (by simp) (AllReadyH.cons rfl (fun K hK => ?_) AllReadyH.nil)
      go_simp
      refine (hpg.out _).mono ?_
      rintro e w4 ⟨rfl, hb4⟩
      have hb4' : Below W1.heap.size W1 w4 := ⟨hb4.os, hb4.tape, hb4.output, hb4.size, hb4.block⟩
      refine hK.out _ _ (hS.out _ (gb.out.below hb4')) (fun hHeld => ?_)
      clear hK
      try simp only [List.getElem_toArray, List.getElem_cons_zero, List.getElem_cons_succ, Act.put, List.setIfInBounds_toArray, List.set_cons_zero, List.set_cons_succ]
      refine wpAnyH_ready (rs := [9]) (by kernel_rfl) (by simp) (AllReadyH.cons rfl (fun K hK => ?_) AllReadyH.nil)
      go_simp
      refine (hprog.out w4 hb4').mono ?_
      rintro e w5 ⟨Fm', L', rfl, hC5, hk5, hF5⟩
      obtain ⟨hst, b6, hC6, hk6, hF6, hG6, gb5⟩ := rop_end (l := rep 288 0) hnew.1 hnew.2.1 hnew.2.2 hB1.out (gb.out.below hb4') (pb.out.below hb4') (hB1.out.trans (hb4'.mono hB1.out.size)) hC5 hk5 hF5 (rep_len 288 0)
      replace b6 := Lib.hid b6
      replace hC6 := Lib.hid hC6
      replace hk6 := Lib.hid hk6
      replace hF6 := Lib.hid hF6
      replace hG6 := Lib.hid hG6
      refine hK.out _ _ (hS.out _ gb5) (fun hHeld => ?_)
      clear hK
      try simp only [List.getElem_toArray, List.getElem_cons_zero, List.getElem_cons_succ, Act.put, List.setIfInBounds_toArray, List.set_cons_zero, List.set_cons_succ]
      refine wpAnyH_ready (rs := [10]) (by kernel_rfl) (by simp) (AllReadyH.cons rfl (fun K hK => ?_) AllReadyH.nil)
      refine step_store_var rfl 48 _ _ rfl _ rfl _ rfl hst ?_
      refine hK.out _ _ (hS.out _ hG6.out) (fun hHeld => ?_)
      clear hK
      try simp only [List.getElem_toArray, List.getElem_cons_zero, List.getElem_cons_succ, Act.put, List.setIfInBounds_toArray, List.set_cons_zero, List.set_cons_succ]
      refine wpAnyH_take (i := 11) (v := ?_) rfl (by kernel_rfl) (by kernel_rfl) (by kernel_rfl) (fun _ _ _ h => h) (Or.inl ⟨rfl, ?_⟩) (by assumption) ?_
      rotate_left
      · intro W hSw
        (try dsimp only at hSw)
        go_simp
        try with_reducible rfl
      try simp only [List.getElem_toArray, List.getElem_cons_zero, List.getElem_cons_succ, Act.put, List.setIfInBounds_toArray, List.set_cons_zero, List.set_cons_succ]
      refine wpAnyH_done (by kernel_rfl) ?_ _
      (try dsimp only [NoPanic])
      go_wp2_with fail
      exact bodyPost_ret (res28 b6.out (rep_len 288 0) rfl rfl) rfl (rdoRes_mk hdo.out rfl hC6.out hk6.out hF6.out)
    have z0 : (d == 0) = false := by simpa using e0
    by_cases e1 : d = 1
    · subst e1
      have hdo := Lib.hid (show st.does (⟨1, n, p, false, fl⟩ : Cl) = ((rep 288 0, (st.erase n).1), (st.erase n).2) from by unfold Chip.does; dsimp only; rw [if_neg (by decide), if_pos rfl])
      have hop := Lib.hid (rerase_any hC1.out hf hks ho hwe n)
      go_wp2_with fail
      refine hop.out.mono ?_
      rintro e w5 ⟨Fm', L', rfl, hC5, hk5, hF5⟩
      obtain ⟨hst, b6, hC6, hk6, hF6, hG6, gb5⟩ := rop_end (l := rep 288 0) hnew.1 hnew.2.1 hnew.2.2 hB1.out (gb.out.below (Below.refl _ _)) (pb.out.below (Below.refl _ _)) (hB1.out.trans ((Below.refl _ _).mono hB1.out.size)) hC5 hk5 hF5 (rep_len 288 0)
      replace b6 := Lib.hid b6
      replace hC6 := Lib.hid hC6
      replace hk6 := Lib.hid hk6
      replace hF6 := Lib.hid hF6
      replace hG6 := Lib.hid hG6
      go_wp2_with (refine wpList_store_var rfl 48 _ _ rfl _ rfl _ rfl hst ?_)
      exact bodyPost_ret (res28 b6.out (rep_len 288 0) rfl rfl) rfl (rdoRes_mk hdo.out rfl hC6.out hk6.out hF6.out)
    have z1 : (d == 1) = false := by simpa using e1
    by_cases e2 : d = 2
    · subst e2
      have hdo := Lib.hid (show st.does (⟨2, n, p, false, fl⟩ : Cl) = (st.readAt n p, st) from by unfold Chip.does; dsimp only; rw [if_neg (by decide), if_neg (by decide), if_pos rfl, hpo.out])
      have hop := Lib.hid (rread_any hC1.out n p)
      have hrl := rreadAt_len hC1.out n p
      obtain ⟨⟨rl, rn⟩, hrr⟩ : ∃ r, st.readAt n p = r := ⟨_, rfl⟩
      rw [hrr] at hop hrl hdo
      clear hrr
      dsimp only at hop hrl
      go_wp2_with fail
      refine hop.out.mono ?_
      rintro e w5 ⟨rfl, hb5⟩
      have hC5 := hC1.out.below hb5
      have hk5 : Kept Fm _ _ := Kept.of_below hb5
      have hF5 : ∀ x, Fm x → Fm x ∨ W1.heap.size ≤ x := fun x hx => .inl hx
      obtain ⟨hst, b6, hC6, hk6, hF6, hG6, gb5⟩ := rop_end (l := rl) hnew.1 hnew.2.1 hnew.2.2 hB1.out (gb.out.below (Below.refl _ _)) (pb.out.below (Below.refl _ _)) (hB1.out.trans ((Below.refl _ _).mono hB1.out.size)) hC5 hk5 hF5 (hrl)
      replace b6 := Lib.hid b6
      replace hC6 := Lib.hid hC6
      replace hk6 := Lib.hid hk6
      replace hF6 := Lib.hid hF6
      replace hG6 := Lib.hid hG6
      go_wp2_with (refine wpList_store_var rfl 48 _ _ rfl _ rfl _ rfl hst ?_)
      exact bodyPost_ret (res28 b6.out (hrl) rfl rfl) rfl (rdoRes_mk hdo.out rfl hC6.out hk6.out hF6.out)
    have z2 : (d == 2) = false := by simpa using e2
    by_cases e3 : d = 3
    · subst e3
      have hdo := Lib.hid (show st.does (⟨3, n, p, false, fl⟩ : Cl) = ((rep 288 0, 0), { st with off := false }) from by unfold Chip.does; dsimp only; rw [if_neg (by decide), if_neg (by decide), if_neg (by decide), if_pos rfl])
      have c5 := hC1.out.c5
      have f5 := hC1.out.chip.frozen 5
      have hC5 := hC1.out.set_off false
      have hk5 : Kept Fm W1 _ := Kept.of_set (W := W1) c 5 (.bool (!false)) hC1.out.fc
      have hF5 : ∀ x, Fm x → Fm x ∨ W1.heap.size ≤ x := fun x hx => .inl hx
      obtain ⟨hst, b6, hC6, hk6, hF6, hG6, gb5⟩ := rop_end (l := rep 288 0) hnew.1 hnew.2.1 hnew.2.2 hB1.out (gb.out.below (Below.refl _ _)) (pb.out.below (Below.refl _ _)) (hB1.out.trans ((Below.refl _ _).mono hB1.out.size)) hC5 hk5 hF5 (rep_len 288 0)
      replace b6 := Lib.hid b6
      replace hC6 := Lib.hid hC6
      replace hk6 := Lib.hid hk6
      replace hF6 := Lib.hid hF6
      replace hG6 := Lib.hid hG6
      clear hC5 hk5 hF5 gb5
      go_upto_region 13 with fail
      clear c5 f5
      go_wp2_with (refine wpList_store_var rfl 48 _ _ rfl _ rfl _ rfl hst ?_)
      exact bodyPost_ret (res28 b6.out (rep_len 288 0) rfl rfl) rfl (rdoRes_mk hdo.out rfl hC6.out hk6.out hF6.out)
    have z3 : (d == 3) = false := by simpa using e3
    have hdo := Lib.hid (show st.does (⟨d, n, p, false, fl⟩ : Cl) = ((rep 288 0, 0), st) from by unfold Chip.does; dsimp only; rw [if_neg e0, if_neg e1, if_neg e2, if_neg e3])
    have hC5 := hC1.out
    have hk5 : Kept Fm W1 W1 := Kept.refl _ _
    have hF5 : ∀ x, Fm x → Fm x ∨ W1.heap.size ≤ x := fun x hx => .inl hx
    obtain ⟨hst, b6, hC6, hk6, hF6, hG6, gb5⟩ := rop_end (l := rep 288 0) hnew.1 hnew.2.1 hnew.2.2 hB1.out (gb.out.below (Below.refl _ _)) (pb.out.below (Below.refl _ _)) (hB1.out.trans ((Below.refl _ _).mono hB1.out.size)) hC5 hk5 hF5 (rep_len 288 0)
    replace b6 := Lib.hid b6
    replace hC6 := Lib.hid hC6
    replace hk6 := Lib.hid hk6
    replace hF6 := Lib.hid hF6
    replace hG6 := Lib.hid hG6
    skip
    go_wp2_with (refine wpList_store_var rfl 48 _ _ rfl _ rfl _ rfl hst ?_)
    exact bodyPost_ret (res28 b6.out (rep_len 288 0) rfl rfl) rfl (rdoRes_mk hdo.out rfl hC6.out hk6.out hF6.out)
  | true =>
    have hlk := rlook_any hC1.out n
    have hpo := Lib.hid (show st.pageOf ⟨d, n, p, true, fl⟩ = (st.lookAt n).1.next from rfl)
    obtain ⟨⟨lw, ln, lb⟩, hl⟩ : ∃ l, (st.lookAt n).1 = l := ⟨_, rfl⟩
    obtain ⟨le, hle⟩ : ∃ l, (st.lookAt n).2 = l := ⟨_, rfl⟩
    rw [hl] at hpo
    rw [hl, hle] at hlk
    unfold lookV lookA at hlk
    dsimp only at hlk hpo
    replace hlk := Lib.hid hlk
    go_enter Try.func28, Try.ntmps28
    go_upto_region 4 with fail
    clear hl hle hW1
    refine hlk.out.mono ?_
    rintro e w3 ⟨rfl, hb3⟩
    clear hlk g0 g1 g2 g3 g4
    have hal : Below w3.heap.size w3 (w3.alloc (.cells #[.int .i64 lw, .int .i64 ln, .bool lb] 42)) := (Below.refl _ _).alloc (Nat.le_refl _) _
    have k1 := (Box.new w3 42 #[.int .i64 lw, .int .i64 ln, .bool lb]).get 1 _ rfl
    have gb4 := (gb.out.below hb3).below hal
    have g2 := gb4.get 2 _ rfl
    have f2 := gb4.frozen 2
    have hB4 := (((hB1.out.trans (hb3.mono hB1.out.size)).trans (hal.mono (Nat.le_trans hB1.out.size hb3.size)))).setCell (p := ⟨w.heap.size, 2, none⟩) (Nat.le_refl _) (.int .i64 ln)
    have pb4 := ((pb.out.below hb3).below hal).far ⟨w.heap.size, 2, none⟩ (.int .i64 ln) (by simp)
    have gb5 := gb4.set 2 (.int .i64 ln)
    replace gb5 : Box _ w.heap.size 40 #[.int .i64 d, .int .i64 n, .int .i64 ln, .bool true, .int .u8 fl.toNat] := gb5
    have hC4 : RefR _ Fm Fr c st L := h.out.same ⟨fun b hb => hB4.block b (by rcases hb with hb | hb; exact h.out.ltm b hb; exact h.out.ltr b hb), hB4.size⟩
    clear gb pb hB1 hC1 gb4 hb3 hal
    obtain ⟨W2, hW2⟩ : ∃ W2, (w3.alloc (.cells #[.int .i64 lw, .int .i64 ln, .bool lb] 42)).setCell ⟨w.heap.size, 2, none⟩ (.int .i64 ln) = W2 := ⟨_, rfl⟩
    rw [hW2] at hB4 pb4 gb5 hC4
    have hB1 := Lib.hid hB4
    have pb := Lib.hid pb4
    have hC1 := Lib.hid hC4
    have gb := Lib.hid gb5
    clear hB4 pb4 hC4
    go_upto_region 4 with fail
    clear g2 f2 k1
    have g0 := gb5.get 0 _ rfl
    have g1 := gb5.get 1 _ rfl
    have g2 := gb5.get 2 _ rfl
    have g3 := gb5.get 3 _ rfl
    have g4 := gb5.get 4 _ rfl
    clear gb5
    try clear hW2
    by_cases e0 : d = 0
    · subst e0
      have hdo := Lib.hid (show st.does (⟨0, n, p, true, fl⟩ : Cl) = ((rep 288 0, (st.program n ln (rep 288 fl)).1), (st.program n ln (rep 288 fl)).2) from by unfold Chip.does; dsimp only; rw [if_pos rfl, hpo.out])
      have hpg := Lib.hid (fun W => page_any fl W)
      have hprog := Lib.hid (fun W (hW : Below W2.heap.size W2 W) => rprogram_any (hC1.out.below hW) hf hks ho n ln (rep 288 fl) (rep_len _ _))
      have hS := Lib.hid (show ∀ W : World, Box W w.heap.size 40 #[.int .i64 0, .int .i64 n, .int .i64 ln, .bool true, .int .u8 fl.toNat] → (fun W => W.cell? ⟨w.heap.size, 1, none⟩ = some (.int .i64 n) ∧ W.cell? ⟨w.heap.size, 2, none⟩ = some (.int .i64 ln) ∧ W.cell? ⟨w.heap.size, 4, none⟩ = some (.int .u8 fl.toNat)) W from fun W h => ⟨h.get 1 _ rfl, h.get 2 _ rfl, h.get 4 _ rfl⟩)
      go_upto_region 6 with fail
      clear g0 g1 g2 g3 g4
      refine wp_region_noPanic ?_
      refine wp_region_held_drew (S := fun W => W.cell? ⟨w.heap.size, 1, none⟩ = some (.int .i64 n) ∧ W.cell? ⟨w.heap.size, 2, none⟩ = some (.int .i64 ln) ∧ W.cell? ⟨w.heap.size, 4, none⟩ = some (.int .u8 fl.toNat)) (by kernel_rfl) (hS.out _ gb.out.drew) (fun hHeld => ?_)
      refine wpAnyH_take (i := 0) (v := ?_) rfl (by kernel_rfl) (by kernel_rfl) (by kernel_rfl) (fun _ _ _ h => h) (Or.inl ⟨rfl, ?_⟩) (by assumption) ?_
      rotate_left
      · intro W hSw
        (try dsimp only at hSw)
        go_simp
        try with_reducible rfl
      try simp only [List.getElem_toArray, List.getElem_cons_zero, List.getElem_cons_succ, Act.put, List.setIfInBounds_toArray, List.set_cons_zero, List.set_cons_succ]
      refine wpAnyH_take (i := 1) (v := ?_) rfl (by kernel_rfl) (by kernel_rfl) (by kernel_rfl) (fun _ _ _ h => h) (Or.inl ⟨rfl, ?_⟩) (by assumption) ?_
      rotate_left
      · intro W hSw
        (try dsimp only at hSw)
        go_simp
        try with_reducible rfl
      try simp only [List.getElem_toArray, List.getElem_cons_zero, List.getElem_cons_succ, Act.put, List.setIfInBounds_toArray, List.set_cons_zero, List.set_cons_succ]
      refine wpAnyH_take (i := 2) (v := ?_) rfl (by kernel_rfl) (by kernel_rfl) (by kernel_rfl) (fun _ _ _ h => h) (Or.inl ⟨rfl, ?_⟩) (by assumption) ?_
      rotate_left
      · intro W hSw
        (try dsimp only at hSw)
        go_simp
        try with_reducible rfl
      try simp only [List.getElem_toArray, List.getElem_cons_zero, List.getElem_cons_succ, Act.put, List.setIfInBounds_toArray, List.set_cons_zero, List.set_cons_succ]
      refine wpAnyH_take (i := 3) (v := ?_) rfl (by kernel_rfl) (by kernel_rfl) (by kernel_rfl) (fun _ _ _ h => h) (Or.inl ⟨rfl, ?_⟩) (by assumption) ?_
      rotate_left
      · intro W hSw
        (try dsimp only at hSw)
        go_simp
        try with_reducible rfl
      try simp only [List.getElem_toArray, List.getElem_cons_zero, List.getElem_cons_succ, Act.put, List.setIfInBounds_toArray, List.set_cons_zero, List.set_cons_succ]
      refine wpAnyH_take (i := 4) (v := ?_) rfl (by kernel_rfl) (by kernel_rfl) (by kernel_rfl) (fun _ _ _ h => h) (Or.inl ⟨rfl, ?_⟩) (by assumption) ?_
      rotate_left
      · intro W hSw
        (try dsimp only at hSw)
        go_simp
        try with_reducible rfl
      try simp only [List.getElem_toArray, List.getElem_cons_zero, List.getElem_cons_succ, Act.put, List.setIfInBounds_toArray, List.set_cons_zero, List.set_cons_succ]
      refine wpAnyH_take (i := 5) (v := ?_) rfl (by kernel_rfl) (by kernel_rfl) (by kernel_rfl) (fun _ _ _ h => h) (Or.inl ⟨rfl, ?_⟩) (by assumption) ?_
      rotate_left
      · intro W hSw
        (try dsimp only at hSw)
        go_simp
        try with_reducible rfl
      try simp only [List.getElem_toArray, List.getElem_cons_zero, List.getElem_cons_succ, Act.put, List.setIfInBounds_toArray, List.set_cons_zero, List.set_cons_succ]
      refine wpAnyH_take (i := 6) (v := ?_) rfl (by kernel_rfl) (by kernel_rfl) (by kernel_rfl) (fun _ _ _ h => h) (Or.inl ⟨rfl, ?_⟩) (by assumption) ?_
      rotate_left
      · intro W hSw
        (try dsimp only at hSw)
        go_simp
        try with_reducible rfl
      try simp only [List.getElem_toArray, List.getElem_cons_zero, List.getElem_cons_succ, Act.put, List.setIfInBounds_toArray, List.set_cons_zero, List.set_cons_succ]
      refine wpAnyH_take (i := 7) (v := ?_) rfl (by kernel_rfl) (by kernel_rfl) (by kernel_rfl) (fun _ _ _ h => h) (Or.inl ⟨rfl, ?_⟩) (by assumption) ?_
      rotate_left
      · intro W hSw
        (try dsimp only at hSw)
        go_simp
        try with_reducible rfl
      try simp only [List.getElem_toArray, List.getElem_cons_zero, List.getElem_cons_succ, Act.put, List.setIfInBounds_toArray, List.set_cons_zero, List.set_cons_succ]
      refine wpAnyH_ready (rs := [8]) (by kernel_rfl) (by simp) (AllReadyH.cons rfl (fun K hK => ?_) AllReadyH.nil)
      go_simp
      refine (hpg.out _).mono ?_
      rintro e w4 ⟨rfl, hb4⟩
      have hb4' : Below W2.heap.size W2 w4 := ⟨hb4.os, hb4.tape, hb4.output, hb4.size, hb4.block⟩
      refine hK.out _ _ (hS.out _ (gb.out.below hb4')) (fun hHeld => ?_)
      clear hK
      try simp only [List.getElem_toArray, List.getElem_cons_zero, List.getElem_cons_succ, Act.put, List.setIfInBounds_toArray, List.set_cons_zero, List.set_cons_succ]
      refine wpAnyH_ready (rs := [9]) (by kernel_rfl) (by simp) (AllReadyH.cons rfl (fun K hK => ?_) AllReadyH.nil)
      go_simp
      refine (hprog.out w4 hb4').mono ?_
      rintro e w5 ⟨Fm', L', rfl, hC5, hk5, hF5⟩
      obtain ⟨hst, b6, hC6, hk6, hF6, hG6, gb5⟩ := rop_end (l := rep 288 0) hnew.1 hnew.2.1 hnew.2.2 hB1.out (gb.out.below hb4') (pb.out.below hb4') (hB1.out.trans (hb4'.mono hB1.out.size)) hC5 hk5 hF5 (rep_len 288 0)
      replace b6 := Lib.hid b6
      replace hC6 := Lib.hid hC6
      replace hk6 := Lib.hid hk6
      replace hF6 := Lib.hid hF6
      replace hG6 := Lib.hid hG6
      refine hK.out _ _ (hS.out _ gb5) (fun hHeld => ?_)
      clear hK
      try simp only [List.getElem_toArray, List.getElem_cons_zero, List.getElem_cons_succ, Act.put, List.setIfInBounds_toArray, List.set_cons_zero, List.set_cons_succ]
      refine wpAnyH_ready (rs := [10]) (by kernel_rfl) (by simp) (AllReadyH.cons rfl (fun K hK => ?_) AllReadyH.nil)
      refine step_store_var rfl 48 _ _ rfl _ rfl _ rfl hst ?_
      refine hK.out _ _ (hS.out _ hG6.out) (fun hHeld => ?_)
      clear hK
      try simp only [List.getElem_toArray, List.getElem_cons_zero, List.getElem_cons_succ, Act.put, List.setIfInBounds_toArray, List.set_cons_zero, List.set_cons_succ]
      refine wpAnyH_take (i := 11) (v := ?_) rfl (by kernel_rfl) (by kernel_rfl) (by kernel_rfl) (fun _ _ _ h => h) (Or.inl ⟨rfl, ?_⟩) (by assumption) ?_
      rotate_left
      · intro W hSw
        (try dsimp only at hSw)
        go_simp
        try with_reducible rfl
      try simp only [List.getElem_toArray, List.getElem_cons_zero, List.getElem_cons_succ, Act.put, List.setIfInBounds_toArray, List.set_cons_zero, List.set_cons_succ]
      refine wpAnyH_done (by kernel_rfl) ?_ _
      (try dsimp only [NoPanic])
      go_wp2_with fail
      exact bodyPost_ret (res28 b6.out (rep_len 288 0) rfl rfl) rfl (rdoRes_mk hdo.out rfl hC6.out hk6.out hF6.out)
    have z0 : (d == 0) = false := by simpa using e0
    by_cases e1 : d = 1
    · subst e1
      have hdo := Lib.hid (show st.does (⟨1, n, p, true, fl⟩ : Cl) = ((rep 288 0, (st.erase n).1), (st.erase n).2) from by unfold Chip.does; dsimp only; rw [if_neg (by decide), if_pos rfl])
      have hop := Lib.hid (rerase_any hC1.out hf hks ho hwe n)
      go_wp2_with fail
      refine hop.out.mono ?_
      rintro e w5 ⟨Fm', L', rfl, hC5, hk5, hF5⟩
      obtain ⟨hst, b6, hC6, hk6, hF6, hG6, gb5⟩ := rop_end (l := rep 288 0) hnew.1 hnew.2.1 hnew.2.2 hB1.out (gb.out.below (Below.refl _ _)) (pb.out.below (Below.refl _ _)) (hB1.out.trans ((Below.refl _ _).mono hB1.out.size)) hC5 hk5 hF5 (rep_len 288 0)
      replace b6 := Lib.hid b6
      replace hC6 := Lib.hid hC6
      replace hk6 := Lib.hid hk6
      replace hF6 := Lib.hid hF6
      replace hG6 := Lib.hid hG6
      go_wp2_with (refine wpList_store_var rfl 48 _ _ rfl _ rfl _ rfl hst ?_)
      exact bodyPost_ret (res28 b6.out (rep_len 288 0) rfl rfl) rfl (rdoRes_mk hdo.out rfl hC6.out hk6.out hF6.out)
    have z1 : (d == 1) = false := by simpa using e1
    by_cases e2 : d = 2
    · subst e2
      have hdo := Lib.hid (show st.does (⟨2, n, p, true, fl⟩ : Cl) = (st.readAt n ln, st) from by unfold Chip.does; dsimp only; rw [if_neg (by decide), if_neg (by decide), if_pos rfl, hpo.out])
      have hop := Lib.hid (rread_any hC1.out n ln)
      have hrl := rreadAt_len hC1.out n ln
      obtain ⟨⟨rl, rn⟩, hrr⟩ : ∃ r, st.readAt n ln = r := ⟨_, rfl⟩
      rw [hrr] at hop hrl hdo
      clear hrr
      dsimp only at hop hrl
      go_wp2_with fail
      refine hop.out.mono ?_
      rintro e w5 ⟨rfl, hb5⟩
      have hC5 := hC1.out.below hb5
      have hk5 : Kept Fm _ _ := Kept.of_below hb5
      have hF5 : ∀ x, Fm x → Fm x ∨ W2.heap.size ≤ x := fun x hx => .inl hx
      obtain ⟨hst, b6, hC6, hk6, hF6, hG6, gb5⟩ := rop_end (l := rl) hnew.1 hnew.2.1 hnew.2.2 hB1.out (gb.out.below (Below.refl _ _)) (pb.out.below (Below.refl _ _)) (hB1.out.trans ((Below.refl _ _).mono hB1.out.size)) hC5 hk5 hF5 (hrl)
      replace b6 := Lib.hid b6
      replace hC6 := Lib.hid hC6
      replace hk6 := Lib.hid hk6
      replace hF6 := Lib.hid hF6
      replace hG6 := Lib.hid hG6
      go_wp2_with (refine wpList_store_var rfl 48 _ _ rfl _ rfl _ rfl hst ?_)
      exact bodyPost_ret (res28 b6.out (hrl) rfl rfl) rfl (rdoRes_mk hdo.out rfl hC6.out hk6.out hF6.out)
    have z2 : (d == 2) = false := by simpa using e2
    by_cases e3 : d = 3
    · subst e3
      have hdo := Lib.hid (show st.does (⟨3, n, p, true, fl⟩ : Cl) = ((rep 288 0, 0), { st with off := false }) from by unfold Chip.does; dsimp only; rw [if_neg (by decide), if_neg (by decide), if_neg (by decide), if_pos rfl])
      have c5 := hC1.out.c5
      have f5 := hC1.out.chip.frozen 5
      have hC5 := hC1.out.set_off false
      have hk5 : Kept Fm W2 _ := Kept.of_set (W := W2) c 5 (.bool (!false)) hC1.out.fc
      have hF5 : ∀ x, Fm x → Fm x ∨ W2.heap.size ≤ x := fun x hx => .inl hx
      obtain ⟨hst, b6, hC6, hk6, hF6, hG6, gb5⟩ := rop_end (l := rep 288 0) hnew.1 hnew.2.1 hnew.2.2 hB1.out (gb.out.below (Below.refl _ _)) (pb.out.below (Below.refl _ _)) (hB1.out.trans ((Below.refl _ _).mono hB1.out.size)) hC5 hk5 hF5 (rep_len 288 0)
      replace b6 := Lib.hid b6
      replace hC6 := Lib.hid hC6
      replace hk6 := Lib.hid hk6
      replace hF6 := Lib.hid hF6
      replace hG6 := Lib.hid hG6
      clear hC5 hk5 hF5 gb5
      go_upto_region 13 with fail
      clear c5 f5
      go_wp2_with (refine wpList_store_var rfl 48 _ _ rfl _ rfl _ rfl hst ?_)
      exact bodyPost_ret (res28 b6.out (rep_len 288 0) rfl rfl) rfl (rdoRes_mk hdo.out rfl hC6.out hk6.out hF6.out)
    have z3 : (d == 3) = false := by simpa using e3
    have hdo := Lib.hid (show st.does (⟨d, n, p, true, fl⟩ : Cl) = ((rep 288 0, 0), st) from by unfold Chip.does; dsimp only; rw [if_neg e0, if_neg e1, if_neg e2, if_neg e3])
    have hC5 := hC1.out
    have hk5 : Kept Fm W2 W2 := Kept.refl _ _
    have hF5 : ∀ x, Fm x → Fm x ∨ W2.heap.size ≤ x := fun x hx => .inl hx
    obtain ⟨hst, b6, hC6, hk6, hF6, hG6, gb5⟩ := rop_end (l := rep 288 0) hnew.1 hnew.2.1 hnew.2.2 hB1.out (gb.out.below (Below.refl _ _)) (pb.out.below (Below.refl _ _)) (hB1.out.trans ((Below.refl _ _).mono hB1.out.size)) hC5 hk5 hF5 (rep_len 288 0)
    replace b6 := Lib.hid b6
    replace hC6 := Lib.hid hC6
    replace hk6 := Lib.hid hk6
    replace hF6 := Lib.hid hF6
    replace hG6 := Lib.hid hG6
    skip
    go_wp2_with (refine wpList_store_var rfl 48 _ _ rfl _ rfl _ rfl hst ?_)
    exact bodyPost_ret (res28 b6.out (rep_len 288 0) rfl rfl) rfl (rdoRes_mk hdo.out rfl hC6.out hk6.out hF6.out)
end Go.Proofs.Ytlgjlhgdpiipbaa
