/- DirentChecks returns true. -/
import Derived.Test.YtmlgjmcenjbbeaaAb
import Derived.Deep.RegionHeld3
import Derived.Deep.DeepCutAuto
namespace Go.Proofs.Ytmlgjmcenjbbeaa
open Go.RowKit
theorem entsRes_rd {l : List Ent} {w : World} {e : Ending} {w' : World} (h : EntsRes l w e w') : ∃ v, e = .returned v ∧ RdE w' v l ∧ Below w.heap.size w w' := by
  obtain ⟨v, h1, h2, h3⟩ := h
  exact ⟨v, h1, RdC.of_own entL_len h2, h3⟩
theorem seq_told (rs : List Rec) (h32 : rs.length ≤ 32) (Bl : Nat) (la : Option Addr) (lc : Nat) (w w' : World) (hbx : Box w' Bl 64 #[.slice la rs.length lc]) (hrd : RdR w' (.slice la rs.length lc) rs) (hla : ∀ b o, la = some ⟨b, o, none⟩ → w.heap.size ≤ b ∧ b < w'.heap.size) (m : Int) (k : Nat) (hm : m = k) (hk : k ≤ 1000000) :
    Calls Try.prog 23 #[.func (.func 44) #[] #[.pointer (some ⟨Bl, 0, none⟩)], .int .i64 m] w' fun e w'' => ∃ v, e = .returned v ∧ RdE w'' v ((Nm.entsOf rs).take k) ∧ Below w'.heap.size w' w'' := by
  subst hm
  exact (told_any Bl rs la lc k h32 w' hbx hrd (fun b o e => (hla b o e).2) hk).mono fun e w'' h => entsRes_rd h
theorem equalB_true (xs : List UInt8) (v u : Value) (w : World) (hv : RdB w v xs) (hu : RdB w u xs) : Calls Try.prog 17 #[v, u] w fun e w' => e = .returned (.bool true) ∧ w' = w := by
  have := equalB_any xs xs v u w hv hu
  rw [show (xs == xs) = true from by simp] at this
  exact this
theorem entsRes_at {l : List Ent} {w : World} {e : Ending} {w' : World} (h : EntsRes l w e w') : ∃ la lc, e = .returned (.slice la l.length lc) ∧ (la = none ∨ ∃ g, la = some ⟨g, 0, none⟩) ∧ l.length ≤ lc ∧ RdE w' (.slice la l.length lc) l ∧ Below w.heap.size w w' := by
  obtain ⟨v, h1, h2, h3⟩ := h
  have hrd := RdC.of_own entL_len h2
  obtain ⟨_, ⟨hv, h0⟩ | ⟨g, cap, cur, hv, hg, hh, hc, hm, hs, ht⟩⟩ := h2
  · exact ⟨none, 0, by rw [h1, hv, h0], .inl rfl, by omega, by rw [hv] at hrd; rw [h0]; exact hrd, h3⟩
  · exact ⟨some ⟨g, 0, none⟩, cap, by rw [h1, hv], .inr ⟨g, rfl⟩, hc, by rw [hv] at hrd; exact hrd, h3⟩
theorem slice_take (la : Option Addr) (n lc k : Nat) (h : la = none ∨ ∃ g, la = some ⟨g, 0, none⟩) (hk : k ≤ lc) (W : World) : (Instr.slice 27 (.slice la n lc) none (some (.int .i64 (k : Int))) none).run Try.prog W = .ok (.slice la k lc) W := by
  rw [run_slice_h W 27 la n lc (by kernel_rfl) .i64 k (by omega) (by omega)]
  rw [show (Go.sizeOf (Try.prog.elem 27)).run Try.prog W = .ok 3 W from by kernel_rfl]
  rcases h with rfl | ⟨g, rfl⟩
  · simp [Result.andThen, sliced]
  · simp [Result.andThen, sliced, Addr.add]
set_option maxRecDepth 100000 in
set_option maxHeartbeats 4000000 in
theorem checks_any (b : List UInt8) (v : Value) (e : Ent) (m : Nat) (w : World) (hr : RdB w v b) (hm : m < 256) : Calls Try.prog 3 #[v, entV e, .int .u8 m] w (BoolB true w) := by
  obtain ⟨nm, ino, kd⟩ := e
  have h7 := find_any b nm v
  have h8 := findr_any b nm v
  have h9 := entriesr_any b v
  have h24 := entries_any b v
  have h15 := state_any b v
  have h16 := stater_any b v
  have h20 := room_any b v
  have h21 := roomr_any b v
  have h11 := name_any nm
  have h12 := namer_any nm
  have h13 := check_any ⟨nm, ino, kd⟩
  have h14 := checkr_any ⟨nm, ino, kd⟩
  have h32 := (Nm.recs_getD b).2
  obtain ⟨q, hq⟩ : ∃ q, (Nm.findIn (Nm.ents b) nm).getD zeroEnt = q := ⟨_, rfl⟩
  obtain ⟨is, his⟩ : ∃ is, (Nm.findIn (Nm.ents b) nm).isSome = is := ⟨_, rfl⟩
  unfold FindRes at h7 h8
  rw [hq, his] at h7 h8
  obtain ⟨qn, qi, qk⟩ := q
  obtain ⟨rs, hrs⟩ : ∃ rs, (Nm.recs b).getD [] = rs := ⟨_, rfl⟩
  have hents : Nm.ents b = Nm.entsOf rs := by unfold Nm.ents; rw [hrs]
  rw [hents] at h9
  rw [hrs] at h24 h32
  obtain ⟨cc, hcc⟩ : ∃ cc, Nm.chk ⟨nm, ino, kd⟩ = cc := ⟨_, rfl⟩
  rw [hcc] at h13 h14
  obtain ⟨nn, hnn⟩ : ∃ nn, Nm.name nm = nn := ⟨_, rfl⟩
  rw [hnn] at h11 h12
  obtain ⟨ss, hss⟩ : ∃ ss, stateOf b = ss := ⟨_, rfl⟩
  rw [hss] at h15 h16
  obtain ⟨rr, hrr⟩ : ∃ rr, Nm.room b = rr := ⟨_, rfl⟩
  rw [hrr] at h20 h21
  clear hq his hrs hents hcc hnn hss hrr
  have hel := Nm.entsOf_len rs
  have hsq := seq_told rs h32
  obtain ⟨E, hE⟩ : ∃ E, Nm.entsOf rs = E := ⟨_, rfl⟩
  rw [hE] at h9 hel hsq
  clear hE
  have hE32 : E.length ≤ 32 := by omega
  have ht9 : E.take 999 = E := List.take_of_length_le (by omega)
  have heq1 := fun v u W h1 h2 => equalE_true E v u W h1 h2 (by omega)
  have heq2 := fun v u W h1 h2 => equalE_true (E.take m) v u W h1 h2 (by rw [List.length_take]; omega)
  unfold entV at *
  dsimp only at *
  replace h7 := Lib.hid h7
  replace h8 := Lib.hid h8
  replace h9 := Lib.hid h9
  replace h24 := Lib.hid h24
  replace h15 := Lib.hid h15
  replace h16 := Lib.hid h16
  replace h20 := Lib.hid h20
  replace h21 := Lib.hid h21
  replace h11 := Lib.hid h11
  replace h12 := Lib.hid h12
  replace h13 := Lib.hid h13
  replace h14 := Lib.hid h14
  replace hsq := Lib.hid hsq
  replace ht9 := Lib.hid ht9
  replace heq1 := Lib.hid heq1
  replace heq2 := Lib.hid heq2
  replace hel := Lib.hid hel
  have bx4 := Box.new w 24 #[.string (S nm), .int .i64 ino, .int .i64 kd]
  have hB := (Below.refl w.heap.size w).alloc (Nat.le_refl _) (.cells #[.string (S nm), .int .i64 ino, .int .i64 kd] 24)
  obtain ⟨W0, hW0⟩ : ∃ W0, w.alloc (.cells #[.string (S nm), .int .i64 ino, .int .i64 kd] 24) = W0 := ⟨_, rfl⟩
  rw [hW0] at bx4 hB
  have hr0 := Lib.hid (hr.below hB)
  clear hr
  replace hB := Lib.hid hB
  have d0 := bx4.get 0 _ rfl
  have d1 := bx4.get 1 _ rfl
  have d2 := bx4.get 2 _ rfl
  replace bx4 := Lib.hid bx4
  go_enter Try.func3, Try.ntmps3
  go_wp2_with fail
  clear hW0
  refine (h7.out W0 hr0.out).mono ?_
  rintro e w1 ⟨rfl, hb⟩
  have hB1 := hB.out.trans (hb.mono hB.out.size)
  have hr1 := hr0.out.below hb
  have bx41 := bx4.out.below hb
  clear hb hB hr0 bx4 d0 d1 d2
  have d0 := bx41.get 0 _ rfl
  have d1 := bx41.get 1 _ rfl
  have d2 := bx41.get 2 _ rfl
  have bx7 := Box.new w1 24 #[.string (S qn), .int .i64 qi, .int .i64 qk]
  have hb := (Below.refl w1.heap.size w1).alloc (Nat.le_refl _) (.cells #[.string (S qn), .int .i64 qi, .int .i64 qk] 24)
  obtain ⟨W2, hW2⟩ : ∃ W2, w1.alloc (.cells #[.string (S qn), .int .i64 qi, .int .i64 qk] 24) = W2 := ⟨_, rfl⟩
  rw [hW2] at bx7 hb
  have hB2 := hB1.trans (hb.mono hB1.size)
  have hr2 := Lib.hid (hr1.below hb)
  have bx42 := bx41.below hb
  clear hb hB1 hr1 bx41 d0 d1 d2
  have d0 := bx42.get 0 _ rfl
  have d1 := bx42.get 1 _ rfl
  have d2 := bx42.get 2 _ rfl
  replace hB2 := Lib.hid hB2
  replace bx42 := Lib.hid bx42
  replace bx7 := Lib.hid bx7
  go_wp2_with fail
  clear hW2
  refine (h8.out W2 hr2.out).mono ?_
  rintro e w3 ⟨rfl, hb⟩
  have hB3 := hB2.out.trans (hb.mono hB2.out.size)
  have hr3 := hr2.out.below hb
  have bx43 := bx42.out.below hb
  have bx73 := bx7.out.below hb
  clear hb hB2 hr2 bx42 d0 d1 d2 bx7
  have bx9 := Box.new w3 24 #[.string (S qn), .int .i64 qi, .int .i64 qk]
  have hb := (Below.refl w3.heap.size w3).alloc (Nat.le_refl _) (.cells #[.string (S qn), .int .i64 qi, .int .i64 qk] 24)
  obtain ⟨W4, hW4⟩ : ∃ W4, w3.alloc (.cells #[.string (S qn), .int .i64 qi, .int .i64 qk] 24) = W4 := ⟨_, rfl⟩
  rw [hW4] at bx9 hb
  have hB4 := Lib.hid (hB3.trans (hb.mono hB3.size))
  have hr4 := Lib.hid (hr3.below hb)
  have bx44 := Lib.hid (bx43.below hb)
  have bx74 := Lib.hid (bx73.below hb)
  clear hb hB3 hr3 bx43 bx73
  replace bx9 := Lib.hid bx9
  go_wp2_with fail
  clear hW4
  refine (h9.out W4 hr4.out).mono ?_
  intro e w5 h5
  obtain ⟨la, lc, rfl, hla, hlc, hle, hb⟩ := entsRes_at h5
  clear h5
  have hB5 := Lib.hid (hB4.out.trans (hb.mono hB4.out.size))
  have hr5 := Lib.hid (hr4.out.below hb)
  have bx45 := Lib.hid (bx44.out.below hb)
  have bx75 := Lib.hid (bx74.out.below hb)
  have bx95 := Lib.hid (bx9.out.below hb)
  clear hb hB4 hr4 bx44 bx74 bx9
  obtain ⟨kk, hkk⟩ : ∃ kk, min m E.length = kk := ⟨_, rfl⟩
  have hmin := Lib.hid (show min (E.length : Int) (m : Int) = (kk : Int) by omega)
  have hwr := Lib.hid (show IntKind.i64.wrap (m : Int) = (m : Int) by rw [IntKind.wrap_i64]; omega)
  have hsli := Lib.hid (fun W => slice_take la E.length lc kk hla (by omega) W)
  have htk := Lib.hid (fun W (h : RdE W (.slice la E.length lc) E) => show RdE W (.slice la kk lc) (E.take m) by
    have := h.take kk (by omega)
    rwa [← hkk, ← List.take_take, List.take_length, hkk] at this)
  have hqe := Lib.hid (fun W => ent_eql_same qn qi qk W)
  clear hla hlc hkk
  replace hle := Lib.hid hle
  go_wp2_with fail
  simp only [List.append_eq, List.cons_append, List.nil_append]
  have hS : ∀ W : World, Below w5.heap.size w5 W → (fun W => (W.cell? ⟨w.heap.size, 0, none⟩ = some (.string (S nm)) ∧ W.cell? ⟨w.heap.size, 1, none⟩ = some (.int .i64 ino) ∧ W.cell? ⟨w.heap.size, 2, none⟩ = some (.int .i64 kd)) ∧ (W.cell? ⟨w1.heap.size, 0, none⟩ = some (.string (S qn)) ∧ W.cell? ⟨w1.heap.size, 1, none⟩ = some (.int .i64 qi) ∧ W.cell? ⟨w1.heap.size, 2, none⟩ = some (.int .i64 qk)) ∧ (W.cell? ⟨w3.heap.size, 0, none⟩ = some (.string (S qn)) ∧ W.cell? ⟨w3.heap.size, 1, none⟩ = some (.int .i64 qi) ∧ W.cell? ⟨w3.heap.size, 2, none⟩ = some (.int .i64 qk))) W := fun W hW => ⟨⟨(bx45.out.below hW).get 0 _ rfl, (bx45.out.below hW).get 1 _ rfl, (bx45.out.below hW).get 2 _ rfl⟩, ⟨(bx75.out.below hW).get 0 _ rfl, (bx75.out.below hW).get 1 _ rfl, (bx75.out.below hW).get 2 _ rfl⟩, ⟨(bx95.out.below hW).get 0 _ rfl, (bx95.out.below hW).get 1 _ rfl, (bx95.out.below hW).get 2 _ rfl⟩⟩
  replace hS := Lib.hid hS
  clear bx45 bx75 bx95
  have hBf := hB5
  clear hB5
  have hB5 := (Below.refl w5.heap.size w5).drew
  replace hr5 := hr5.out.below hB5
  have hle5 := hle.out.below hB5
  clear hle
  refine wp_region_noPanic ?_
  refine wp_region_held_drew (S := fun W => (W.cell? ⟨w.heap.size, 0, none⟩ = some (.string (S nm)) ∧ W.cell? ⟨w.heap.size, 1, none⟩ = some (.int .i64 ino) ∧ W.cell? ⟨w.heap.size, 2, none⟩ = some (.int .i64 kd)) ∧ (W.cell? ⟨w1.heap.size, 0, none⟩ = some (.string (S qn)) ∧ W.cell? ⟨w1.heap.size, 1, none⟩ = some (.int .i64 qi) ∧ W.cell? ⟨w1.heap.size, 2, none⟩ = some (.int .i64 qk)) ∧ (W.cell? ⟨w3.heap.size, 0, none⟩ = some (.string (S qn)) ∧ W.cell? ⟨w3.heap.size, 1, none⟩ = some (.int .i64 qi) ∧ W.cell? ⟨w3.heap.size, 2, none⟩ = some (.int .i64 qk))) (by kernel_rfl) (hS.out _ hB5) (fun hHeld => ?_)
  refine wpAnyH_ready (rs := [0]) (by kernel_rfl) (by simp) (AllReadyH.cons rfl (fun K hK => ?_) AllReadyH.nil)
  go_simp
  refine (begun_any _).mono ?_
  rintro e w6 ⟨rfl, hb⟩
  have hB6 := hB5.trans (hb.mono hB5.size)
  have hr6 := hr5.below hb
  have hle6 := hle5.below hb
  refine hK.out _ _ (hS.out _ hB6) (fun hHeld => ?_)
  clear hK
  try simp only [List.getElem_toArray, List.getElem_cons_zero, List.getElem_cons_succ, Act.put, List.setIfInBounds_toArray, List.set_cons_zero, List.set_cons_succ]
  refine wpAnyH_take (i := 1) (v := ?_) rfl (by kernel_rfl) (by kernel_rfl) (by kernel_rfl) (fun _ _ _ h => h) (Or.inl ⟨rfl, ?_⟩) (by assumption) ?_
  rotate_left
  · intro W hSw
    (try dsimp only at hSw)
    go_simp
    try with_reducible rfl
  try simp only [List.getElem_toArray, List.getElem_cons_zero, List.getElem_cons_succ, Act.put, List.setIfInBounds_toArray, List.set_cons_zero, List.set_cons_succ]
  refine wpAnyH_take (i := 2) (v := ?_) rfl (by kernel_rfl) (by kernel_rfl) (by kernel_rfl) (fun _ _ _ h => h) (Or.inl ⟨rfl, ?_⟩) (by assumption) ?_
  rotate_left
  · intro W hSw
    (try dsimp only at hSw)
    go_simp
    try with_reducible rfl
  try simp only [List.getElem_toArray, List.getElem_cons_zero, List.getElem_cons_succ, Act.put, List.setIfInBounds_toArray, List.set_cons_zero, List.set_cons_succ]
  refine wpAnyH_take (i := 3) (v := ?_) rfl (by kernel_rfl) (by kernel_rfl) (by kernel_rfl) (fun _ _ _ h => h) (Or.inl ⟨rfl, ?_⟩) (by assumption) ?_
  rotate_left
  · intro W hSw
    (try dsimp only at hSw)
    go_simp
    try with_reducible rfl
  try simp only [List.getElem_toArray, List.getElem_cons_zero, List.getElem_cons_succ, Act.put, List.setIfInBounds_toArray, List.set_cons_zero, List.set_cons_succ]
  refine wpAnyH_take (i := 5) (v := ?_) rfl (by kernel_rfl) (by kernel_rfl) (by kernel_rfl) (fun _ _ _ h => h) (Or.inl ⟨rfl, ?_⟩) (by assumption) ?_
  rotate_left
  · intro W hSw
    (try dsimp only at hSw)
    go_simp
    try with_reducible rfl
  try simp only [List.getElem_toArray, List.getElem_cons_zero, List.getElem_cons_succ, Act.put, List.setIfInBounds_toArray, List.set_cons_zero, List.set_cons_succ]
  refine wpAnyH_take (i := 6) (v := ?_) rfl (by kernel_rfl) (by kernel_rfl) (by kernel_rfl) (fun _ _ _ h => h) (Or.inl ⟨rfl, ?_⟩) (by assumption) ?_
  rotate_left
  · intro W hSw
    (try dsimp only at hSw)
    go_simp
    try with_reducible rfl
  try simp only [List.getElem_toArray, List.getElem_cons_zero, List.getElem_cons_succ, Act.put, List.setIfInBounds_toArray, List.set_cons_zero, List.set_cons_succ]
  refine wpAnyH_ready (rs := [4]) (by kernel_rfl) (by simp) (AllReadyH.cons rfl (fun K hK => ?_) AllReadyH.nil)
  go_simp
  refine (h11.out _).mono ?_
  rintro e w' ⟨rfl, hw⟩
  obtain rfl := hw.symm
  refine hK.out _ _ (hS.out _ hB6) (fun hHeld => ?_)
  clear hK
  try simp only [List.getElem_toArray, List.getElem_cons_zero, List.getElem_cons_succ, Act.put, List.setIfInBounds_toArray, List.set_cons_zero, List.set_cons_succ]
  refine wpAnyH_ready (rs := [7]) (by kernel_rfl) (by simp) (AllReadyH.cons rfl (fun K hK => ?_) AllReadyH.nil)
  go_simp
  refine (h12.out _).mono ?_
  rintro e w' ⟨rfl, hw⟩
  obtain rfl := hw.symm
  refine hK.out _ _ (hS.out _ hB6) (fun hHeld => ?_)
  clear hK
  try simp only [List.getElem_toArray, List.getElem_cons_zero, List.getElem_cons_succ, Act.put, List.setIfInBounds_toArray, List.set_cons_zero, List.set_cons_succ]
  refine wpAnyH_take (i := 8) (v := ?_) rfl (by kernel_rfl) (by kernel_rfl) (by kernel_rfl) (fun _ _ _ h => h) (Or.inl ⟨rfl, ?_⟩) (by assumption) ?_
  rotate_left
  · intro W hSw
    (try dsimp only at hSw)
    go_simp
    try with_reducible rfl
  try simp only [List.getElem_toArray, List.getElem_cons_zero, List.getElem_cons_succ, Act.put, List.setIfInBounds_toArray, List.set_cons_zero, List.set_cons_succ]
  refine wpAnyH_take (i := 9) (v := ?_) rfl (by kernel_rfl) (by kernel_rfl) (by kernel_rfl) (fun _ _ _ h => h) (Or.inl ⟨rfl, ?_⟩) (by assumption) ?_
  rotate_left
  · intro W hSw
    (try dsimp only at hSw)
    go_simp
    try with_reducible rfl
  try simp only [List.getElem_toArray, List.getElem_cons_zero, List.getElem_cons_succ, Act.put, List.setIfInBounds_toArray, List.set_cons_zero, List.set_cons_succ]
  refine wpAnyH_take (i := 10) (v := ?_) rfl (by kernel_rfl) (by kernel_rfl) (by kernel_rfl) (fun _ _ _ h => h) (Or.inl ⟨rfl, ?_⟩) (by assumption) ?_
  rotate_left
  · intro W hSw
    (try dsimp only at hSw)
    go_simp
    try with_reducible rfl
  try simp only [List.getElem_toArray, List.getElem_cons_zero, List.getElem_cons_succ, Act.put, List.setIfInBounds_toArray, List.set_cons_zero, List.set_cons_succ]
  refine wpAnyH_take (i := 11) (v := ?_) rfl (by kernel_rfl) (by kernel_rfl) (by kernel_rfl) (fun _ _ _ h => h) (Or.inl ⟨rfl, ?_⟩) (by assumption) ?_
  rotate_left
  · intro W hSw
    (try dsimp only at hSw)
    go_simp
    try with_reducible rfl
  try simp only [List.getElem_toArray, List.getElem_cons_zero, List.getElem_cons_succ, Act.put, List.setIfInBounds_toArray, List.set_cons_zero, List.set_cons_succ]
  refine wpAnyH_take (i := 13) (v := ?_) rfl (by kernel_rfl) (by kernel_rfl) (by kernel_rfl) (fun _ _ _ h => h) (Or.inl ⟨rfl, ?_⟩) (by assumption) ?_
  rotate_left
  · intro W hSw
    (try dsimp only at hSw)
    go_simp
    try with_reducible rfl
  try simp only [List.getElem_toArray, List.getElem_cons_zero, List.getElem_cons_succ, Act.put, List.setIfInBounds_toArray, List.set_cons_zero, List.set_cons_succ]
  refine wpAnyH_ready (rs := [12]) (by kernel_rfl) (by simp) (AllReadyH.cons rfl (fun K hK => ?_) AllReadyH.nil)
  go_simp
  refine (h13.out _).mono ?_
  rintro e w7 ⟨rfl, hb⟩
  have hB7 := hB6.trans (hb.mono hB6.size)
  have hr7 := hr6.below hb
  have hle7 := hle6.below hb
  refine hK.out _ _ (hS.out _ hB7) (fun hHeld => ?_)
  clear hK
  try simp only [List.getElem_toArray, List.getElem_cons_zero, List.getElem_cons_succ, Act.put, List.setIfInBounds_toArray, List.set_cons_zero, List.set_cons_succ]
  refine wpAnyH_ready (rs := [14]) (by kernel_rfl) (by simp) (AllReadyH.cons rfl (fun K hK => ?_) AllReadyH.nil)
  go_simp
  refine (h14.out _).mono ?_
  rintro e w8 ⟨rfl, hb⟩
  have hB8 := hB7.trans (hb.mono hB7.size)
  have hr8 := hr7.below hb
  have hle8 := hle7.below hb
  refine hK.out _ _ (hS.out _ hB8) (fun hHeld => ?_)
  clear hK
  try simp only [List.getElem_toArray, List.getElem_cons_zero, List.getElem_cons_succ, Act.put, List.setIfInBounds_toArray, List.set_cons_zero, List.set_cons_succ]
  refine wpAnyH_take (i := 15) (v := ?_) rfl (by kernel_rfl) (by kernel_rfl) (by kernel_rfl) (fun _ _ _ h => h) (Or.inl ⟨rfl, ?_⟩) (by assumption) ?_
  rotate_left
  · intro W hSw
    (try dsimp only at hSw)
    go_simp
    try with_reducible rfl
  try simp only [List.getElem_toArray, List.getElem_cons_zero, List.getElem_cons_succ, Act.put, List.setIfInBounds_toArray, List.set_cons_zero, List.set_cons_succ]
  refine wpAnyH_take (i := 16) (v := ?_) rfl (by kernel_rfl) (by kernel_rfl) (by kernel_rfl) (fun _ _ _ h => h) (Or.inl ⟨rfl, ?_⟩) (by assumption) ?_
  rotate_left
  · intro W hSw
    (try dsimp only at hSw)
    go_simp
    try with_reducible rfl
  try simp only [List.getElem_toArray, List.getElem_cons_zero, List.getElem_cons_succ, Act.put, List.setIfInBounds_toArray, List.set_cons_zero, List.set_cons_succ]
  refine wpAnyH_take (i := 17) (v := ?_) rfl (by kernel_rfl) (by kernel_rfl) (by kernel_rfl) (fun _ _ _ h => h) (Or.inl ⟨rfl, ?_⟩) (by assumption) ?_
  rotate_left
  · intro W hSw
    (try dsimp only at hSw)
    go_simp
    try with_reducible rfl
  try simp only [List.getElem_toArray, List.getElem_cons_zero, List.getElem_cons_succ, Act.put, List.setIfInBounds_toArray, List.set_cons_zero, List.set_cons_succ]
  refine wpAnyH_take (i := 18) (v := ?_) rfl (by kernel_rfl) (by kernel_rfl) (by kernel_rfl) (fun _ _ _ h => h) (Or.inl ⟨rfl, ?_⟩) (by assumption) ?_
  rotate_left
  · intro W hSw
    (try dsimp only at hSw)
    go_simp
    try with_reducible rfl
  try simp only [List.getElem_toArray, List.getElem_cons_zero, List.getElem_cons_succ, Act.put, List.setIfInBounds_toArray, List.set_cons_zero, List.set_cons_succ]
  refine wpAnyH_take (i := 20) (v := ?_) rfl (by kernel_rfl) (by kernel_rfl) (by kernel_rfl) (fun _ _ _ h => h) (Or.inl ⟨rfl, ?_⟩) (by assumption) ?_
  rotate_left
  · intro W hSw
    (try dsimp only at hSw)
    go_simp
    try with_reducible rfl
  try simp only [List.getElem_toArray, List.getElem_cons_zero, List.getElem_cons_succ, Act.put, List.setIfInBounds_toArray, List.set_cons_zero, List.set_cons_succ]
  refine wpAnyH_ready (rs := [19]) (by kernel_rfl) (by simp) (AllReadyH.cons rfl (fun K hK => ?_) AllReadyH.nil)
  go_simp
  refine (h15.out _ hr8).mono ?_
  rintro e w9 ⟨rfl, hb⟩
  have hB9 := hB8.trans (hb.mono hB8.size)
  have hr9 := hr8.below hb
  have hle9 := hle8.below hb
  refine hK.out _ _ (hS.out _ hB9) (fun hHeld => ?_)
  clear hK
  try simp only [List.getElem_toArray, List.getElem_cons_zero, List.getElem_cons_succ, Act.put, List.setIfInBounds_toArray, List.set_cons_zero, List.set_cons_succ]
  refine wpAnyH_ready (rs := [21]) (by kernel_rfl) (by simp) (AllReadyH.cons rfl (fun K hK => ?_) AllReadyH.nil)
  go_simp
  refine (h16.out _ hr9).mono ?_
  rintro e w10 ⟨rfl, hb⟩
  have hB10 := hB9.trans (hb.mono hB9.size)
  have hr10 := hr9.below hb
  have hle10 := hle9.below hb
  refine hK.out _ _ (hS.out _ hB10) (fun hHeld => ?_)
  clear hK
  try simp only [List.getElem_toArray, List.getElem_cons_zero, List.getElem_cons_succ, Act.put, List.setIfInBounds_toArray, List.set_cons_zero, List.set_cons_succ]
  refine wpAnyH_take (i := 22) (v := ?_) rfl (by kernel_rfl) (by kernel_rfl) (by kernel_rfl) (fun _ _ _ h => h) (Or.inl ⟨rfl, ?_⟩) (by assumption) ?_
  rotate_left
  · intro W hSw
    (try dsimp only at hSw)
    go_simp
    try with_reducible rfl
  try simp only [List.getElem_toArray, List.getElem_cons_zero, List.getElem_cons_succ, Act.put, List.setIfInBounds_toArray, List.set_cons_zero, List.set_cons_succ]
  refine wpAnyH_take (i := 23) (v := ?_) rfl (by kernel_rfl) (by kernel_rfl) (by kernel_rfl) (fun _ _ _ h => h) (Or.inl ⟨rfl, ?_⟩) (by assumption) ?_
  rotate_left
  · intro W hSw
    (try dsimp only at hSw)
    go_simp
    try with_reducible rfl
  try simp only [List.getElem_toArray, List.getElem_cons_zero, List.getElem_cons_succ, Act.put, List.setIfInBounds_toArray, List.set_cons_zero, List.set_cons_succ]
  refine wpAnyH_take (i := 24) (v := ?_) rfl (by kernel_rfl) (by kernel_rfl) (by kernel_rfl) (fun _ _ _ h => h) (Or.inl ⟨rfl, ?_⟩) (by assumption) ?_
  rotate_left
  · intro W hSw
    (try dsimp only at hSw)
    go_simp
    try with_reducible rfl
  try simp only [List.getElem_toArray, List.getElem_cons_zero, List.getElem_cons_succ, Act.put, List.setIfInBounds_toArray, List.set_cons_zero, List.set_cons_succ]
  refine wpAnyH_ready (rs := [25]) (by kernel_rfl) (by simp) (AllReadyH.cons rfl (fun K hK => ?_) AllReadyH.nil)
  go_simp
  refine (empty_any _).mono ?_
  rintro e w11 ⟨g1, c1, rfl, _, ho1, hb⟩
  have hB11 := hB10.trans (hb.mono hB10.size)
  have hr11 := hr10.below hb
  have hle11 := hle10.below hb
  refine hK.out _ _ (hS.out _ hB11) (fun hHeld => ?_)
  clear hK
  try simp only [List.getElem_toArray, List.getElem_cons_zero, List.getElem_cons_succ, Act.put, List.setIfInBounds_toArray, List.set_cons_zero, List.set_cons_succ]
  refine wpAnyH_ready (rs := [26]) (by kernel_rfl) (by simp) (AllReadyH.cons rfl (fun K hK => ?_) AllReadyH.nil)
  go_simp
  refine (emptyr_any _).mono ?_
  rintro e w12 ⟨g2, c2, rfl, _, ho2, hb⟩
  have hB12 := hB11.trans (hb.mono hB11.size)
  have hr12 := hr11.below hb
  have hle12 := hle11.below hb
  have ho12 := ho1.below hb
  refine hK.out _ _ (hS.out _ hB12) (fun hHeld => ?_)
  clear hK
  try simp only [List.getElem_toArray, List.getElem_cons_zero, List.getElem_cons_succ, Act.put, List.setIfInBounds_toArray, List.set_cons_zero, List.set_cons_succ]
  refine wpAnyH_ready (rs := [27]) (by kernel_rfl) (by simp) (AllReadyH.cons rfl (fun K hK => ?_) AllReadyH.nil)
  go_simp
  refine (equalB_true Nm.empty _ _ _ ho12.rd ho2.rd).mono ?_
  rintro e w' ⟨rfl, hw⟩
  obtain rfl := hw.symm
  refine hK.out _ _ (hS.out _ hB12) (fun hHeld => ?_)
  clear hK
  try simp only [List.getElem_toArray, List.getElem_cons_zero, List.getElem_cons_succ, Act.put, List.setIfInBounds_toArray, List.set_cons_zero, List.set_cons_succ]
  refine wpAnyH_take (i := 28) (v := ?_) rfl (by kernel_rfl) (by kernel_rfl) (by kernel_rfl) (fun _ _ _ h => h) (Or.inl ⟨rfl, ?_⟩) (by assumption) ?_
  rotate_left
  · intro W hSw
    (try dsimp only at hSw)
    go_simp
    try with_reducible rfl
  try simp only [List.getElem_toArray, List.getElem_cons_zero, List.getElem_cons_succ, Act.put, List.setIfInBounds_toArray, List.set_cons_zero, List.set_cons_succ]
  refine wpAnyH_take (i := 29) (v := ?_) rfl (by kernel_rfl) (by kernel_rfl) (by kernel_rfl) (fun _ _ _ h => h) (Or.inl ⟨rfl, ?_⟩) (by assumption) ?_
  rotate_left
  · intro W hSw
    (try dsimp only at hSw)
    go_simp
    try with_reducible rfl
  try simp only [List.getElem_toArray, List.getElem_cons_zero, List.getElem_cons_succ, Act.put, List.setIfInBounds_toArray, List.set_cons_zero, List.set_cons_succ]
  refine wpAnyH_take (i := 30) (v := ?_) rfl (by kernel_rfl) (by kernel_rfl) (by kernel_rfl) (fun _ _ _ h => h) (Or.inl ⟨rfl, ?_⟩) (by assumption) ?_
  rotate_left
  · intro W hSw
    (try dsimp only at hSw)
    go_simp
    try with_reducible rfl
  try simp only [List.getElem_toArray, List.getElem_cons_zero, List.getElem_cons_succ, Act.put, List.setIfInBounds_toArray, List.set_cons_zero, List.set_cons_succ]
  refine wpAnyH_take (i := 31) (v := ?_) rfl (by kernel_rfl) (by kernel_rfl) (by kernel_rfl) (fun _ _ _ h => h) (Or.inl ⟨rfl, ?_⟩) (by assumption) ?_
  rotate_left
  · intro W hSw
    (try dsimp only at hSw)
    go_simp
    try with_reducible rfl
  try simp only [List.getElem_toArray, List.getElem_cons_zero, List.getElem_cons_succ, Act.put, List.setIfInBounds_toArray, List.set_cons_zero, List.set_cons_succ]
  have hq0 := hqe.out
  refine wpAnyH_take (i := 32) (v := ?_) rfl (by kernel_rfl) (by kernel_rfl) (by kernel_rfl) (fun _ _ _ h => h) (Or.inl ⟨rfl, ?_⟩) (by assumption) ?_
  rotate_left
  · intro W hSw
    (try dsimp only at hSw)
    go_simp
    try with_reducible rfl
  try simp only [List.getElem_toArray, List.getElem_cons_zero, List.getElem_cons_succ, Act.put, List.setIfInBounds_toArray, List.set_cons_zero, List.set_cons_succ]
  clear hq0
  refine wpAnyH_take (i := 33) (v := ?_) rfl (by kernel_rfl) (by kernel_rfl) (by kernel_rfl) (fun _ _ _ h => h) (Or.inl ⟨rfl, ?_⟩) (by assumption) ?_
  rotate_left
  · intro W hSw
    (try dsimp only at hSw)
    go_simp
    try with_reducible rfl
  try simp only [List.getElem_toArray, List.getElem_cons_zero, List.getElem_cons_succ, Act.put, List.setIfInBounds_toArray, List.set_cons_zero, List.set_cons_succ]
  refine wpAnyH_take (i := 34) (v := ?_) rfl (by kernel_rfl) (by kernel_rfl) (by kernel_rfl) (fun _ _ _ h => h) (Or.inl ⟨rfl, ?_⟩) (by assumption) ?_
  rotate_left
  · intro W hSw
    (try dsimp only at hSw)
    go_simp
    try with_reducible rfl
  try simp only [List.getElem_toArray, List.getElem_cons_zero, List.getElem_cons_succ, Act.put, List.setIfInBounds_toArray, List.set_cons_zero, List.set_cons_succ]
  refine wpAnyH_take (i := 35) (v := ?_) rfl (by kernel_rfl) (by kernel_rfl) (by kernel_rfl) (fun _ _ _ h => h) (Or.inl ⟨rfl, ?_⟩) (by assumption) ?_
  rotate_left
  · intro W hSw
    (try dsimp only at hSw)
    go_simp
    try with_reducible rfl
  try simp only [List.getElem_toArray, List.getElem_cons_zero, List.getElem_cons_succ, Act.put, List.setIfInBounds_toArray, List.set_cons_zero, List.set_cons_succ]
  refine wpAnyH_take (i := 36) (v := ?_) rfl (by kernel_rfl) (by kernel_rfl) (by kernel_rfl) (fun _ _ _ h => h) (Or.inl ⟨rfl, ?_⟩) (by assumption) ?_
  rotate_left
  · intro W hSw
    (try dsimp only at hSw)
    go_simp
    try with_reducible rfl
  try simp only [List.getElem_toArray, List.getElem_cons_zero, List.getElem_cons_succ, Act.put, List.setIfInBounds_toArray, List.set_cons_zero, List.set_cons_succ]
  refine wpAnyH_take (i := 37) (v := ?_) rfl (by kernel_rfl) (by kernel_rfl) (by kernel_rfl) (fun _ _ _ h => h) (Or.inl ⟨rfl, ?_⟩) (by assumption) ?_
  rotate_left
  · intro W hSw
    (try dsimp only at hSw)
    go_simp
    try with_reducible rfl
  try simp only [List.getElem_toArray, List.getElem_cons_zero, List.getElem_cons_succ, Act.put, List.setIfInBounds_toArray, List.set_cons_zero, List.set_cons_succ]
  refine wpAnyH_take (i := 38) (v := ?_) rfl (by kernel_rfl) (by kernel_rfl) (by kernel_rfl) (fun _ _ _ h => h) (Or.inl ⟨rfl, ?_⟩) (by assumption) ?_
  rotate_left
  · intro W hSw
    (try dsimp only at hSw)
    go_simp
    try with_reducible rfl
  try simp only [List.getElem_toArray, List.getElem_cons_zero, List.getElem_cons_succ, Act.put, List.setIfInBounds_toArray, List.set_cons_zero, List.set_cons_succ]
  refine wpAnyH_take (i := 39) (v := ?_) rfl (by kernel_rfl) (by kernel_rfl) (by kernel_rfl) (fun _ _ _ h => h) (Or.inl ⟨rfl, ?_⟩) (by assumption) ?_
  rotate_left
  · intro W hSw
    (try dsimp only at hSw)
    go_simp
    try with_reducible rfl
  try simp only [List.getElem_toArray, List.getElem_cons_zero, List.getElem_cons_succ, Act.put, List.setIfInBounds_toArray, List.set_cons_zero, List.set_cons_succ]
  refine wpAnyH_take (i := 40) (v := ?_) rfl (by kernel_rfl) (by kernel_rfl) (by kernel_rfl) (fun _ _ _ h => h) (Or.inl ⟨rfl, ?_⟩) (by assumption) ?_
  rotate_left
  · intro W hSw
    (try dsimp only at hSw)
    go_simp
    try with_reducible rfl
  try simp only [List.getElem_toArray, List.getElem_cons_zero, List.getElem_cons_succ, Act.put, List.setIfInBounds_toArray, List.set_cons_zero, List.set_cons_succ]
  refine wpAnyH_take (i := 42) (v := ?_) rfl (by kernel_rfl) (by kernel_rfl) (by kernel_rfl) (fun _ _ _ h => h) (Or.inl ⟨rfl, ?_⟩) (by assumption) ?_
  rotate_left
  · intro W hSw
    (try dsimp only at hSw)
    go_simp
    try with_reducible rfl
  try simp only [List.getElem_toArray, List.getElem_cons_zero, List.getElem_cons_succ, Act.put, List.setIfInBounds_toArray, List.set_cons_zero, List.set_cons_succ]
  refine wpAnyH_ready (rs := [41]) (by kernel_rfl) (by simp) (AllReadyH.cons rfl (fun K hK => ?_) AllReadyH.nil)
  go_simp
  refine (h20.out _ hr12).mono ?_
  rintro e w13 ⟨rfl, hb⟩
  have hB13 := hB12.trans (hb.mono hB12.size)
  have hr13 := hr12.below hb
  have hle13 := hle12.below hb
  refine hK.out _ _ (hS.out _ hB13) (fun hHeld => ?_)
  clear hK
  try simp only [List.getElem_toArray, List.getElem_cons_zero, List.getElem_cons_succ, Act.put, List.setIfInBounds_toArray, List.set_cons_zero, List.set_cons_succ]
  refine wpAnyH_ready (rs := [43]) (by kernel_rfl) (by simp) (AllReadyH.cons rfl (fun K hK => ?_) AllReadyH.nil)
  go_simp
  refine (h21.out _ hr13).mono ?_
  rintro e w14 ⟨rfl, hb⟩
  have hB14 := hB13.trans (hb.mono hB13.size)
  have hr14 := hr13.below hb
  have hle14 := hle13.below hb
  refine hK.out _ _ (hS.out _ hB14) (fun hHeld => ?_)
  clear hK
  try simp only [List.getElem_toArray, List.getElem_cons_zero, List.getElem_cons_succ, Act.put, List.setIfInBounds_toArray, List.set_cons_zero, List.set_cons_succ]
  refine wpAnyH_take (i := 44) (v := ?_) rfl (by kernel_rfl) (by kernel_rfl) (by kernel_rfl) (fun _ _ _ h => h) (Or.inl ⟨rfl, ?_⟩) (by assumption) ?_
  rotate_left
  · intro W hSw
    (try dsimp only at hSw)
    go_simp
    try with_reducible rfl
  try simp only [List.getElem_toArray, List.getElem_cons_zero, List.getElem_cons_succ, Act.put, List.setIfInBounds_toArray, List.set_cons_zero, List.set_cons_succ]
  refine wpAnyH_take (i := 45) (v := ?_) rfl (by kernel_rfl) (by kernel_rfl) (by kernel_rfl) (fun _ _ _ h => h) (Or.inl ⟨rfl, ?_⟩) (by assumption) ?_
  rotate_left
  · intro W hSw
    (try dsimp only at hSw)
    go_simp
    try with_reducible rfl
  try simp only [List.getElem_toArray, List.getElem_cons_zero, List.getElem_cons_succ, Act.put, List.setIfInBounds_toArray, List.set_cons_zero, List.set_cons_succ]
  refine wpAnyH_take (i := 46) (v := ?_) rfl (by kernel_rfl) (by kernel_rfl) (by kernel_rfl) (fun _ _ _ h => h) (Or.inl ⟨rfl, ?_⟩) (by assumption) ?_
  rotate_left
  · intro W hSw
    (try dsimp only at hSw)
    go_simp
    try with_reducible rfl
  try simp only [List.getElem_toArray, List.getElem_cons_zero, List.getElem_cons_succ, Act.put, List.setIfInBounds_toArray, List.set_cons_zero, List.set_cons_succ]
  refine wpAnyH_take (i := 47) (v := ?_) rfl (by kernel_rfl) (by kernel_rfl) (by kernel_rfl) (fun _ _ _ h => h) (Or.inl ⟨rfl, ?_⟩) (by assumption) ?_
  rotate_left
  · intro W hSw
    (try dsimp only at hSw)
    go_simp
    try with_reducible rfl
  try simp only [List.getElem_toArray, List.getElem_cons_zero, List.getElem_cons_succ, Act.put, List.setIfInBounds_toArray, List.set_cons_zero, List.set_cons_succ]
  refine wpAnyH_take (i := 50) (v := ?_) rfl (by kernel_rfl) (by kernel_rfl) (by kernel_rfl) (fun _ _ _ h => h) (Or.inl ⟨rfl, ?_⟩) (by assumption) ?_
  rotate_left
  · intro W hSw
    (try dsimp only at hSw)
    go_simp
    try with_reducible rfl
  try simp only [List.getElem_toArray, List.getElem_cons_zero, List.getElem_cons_succ, Act.put, List.setIfInBounds_toArray, List.set_cons_zero, List.set_cons_succ]
  refine wpAnyH_ready (rs := [48]) (by kernel_rfl) (by simp) (AllReadyH.cons rfl (fun K hK => ?_) AllReadyH.nil)
  go_simp
  refine (h24.out _ hr14).mono ?_
  rintro e w15 ⟨B1, a1, k1, rfl, _, hx1, hd1, ha1, hb⟩
  have hB15 := hB14.trans (hb.mono hB14.size)
  have hr15 := hr14.below hb
  have hle15 := hle14.below hb
  refine hK.out _ _ (hS.out _ hB15) (fun hHeld => ?_)
  clear hK
  try simp only [List.getElem_toArray, List.getElem_cons_zero, List.getElem_cons_succ, Act.put, List.setIfInBounds_toArray, List.set_cons_zero, List.set_cons_succ]
  refine wpAnyH_ready (rs := [49]) (by kernel_rfl) (by simp) (AllReadyH.cons rfl (fun K hK => ?_) AllReadyH.nil)
  go_simp
  refine (hsq.out B1 a1 k1 w14 w15 hx1 hd1 ha1 999 999 rfl (by omega)).mono ?_
  rintro e w16 ⟨u1, rfl, hu1, hb⟩
  have hB16 := hB15.trans (hb.mono hB15.size)
  have hr16 := hr15.below hb
  have hle16 := hle15.below hb
  rw [ht9.out] at hu1
  refine hK.out _ _ (hS.out _ hB16) (fun hHeld => ?_)
  clear hK
  try simp only [List.getElem_toArray, List.getElem_cons_zero, List.getElem_cons_succ, Act.put, List.setIfInBounds_toArray, List.set_cons_zero, List.set_cons_succ]
  refine wpAnyH_ready (rs := [51]) (by kernel_rfl) (by simp) (AllReadyH.cons rfl (fun K hK => ?_) AllReadyH.nil)
  go_simp
  refine (heq1.out _ _ _ hu1 hle16).mono ?_
  rintro e w17 ⟨rfl, hb⟩
  have hB17 := hB16.trans (hb.mono hB16.size)
  have hr17 := hr16.below hb
  have hle17 := hle16.below hb
  refine hK.out _ _ (hS.out _ hB17) (fun hHeld => ?_)
  clear hK
  try simp only [List.getElem_toArray, List.getElem_cons_zero, List.getElem_cons_succ, Act.put, List.setIfInBounds_toArray, List.set_cons_zero, List.set_cons_succ]
  refine wpAnyH_take (i := 52) (v := ?_) rfl (by kernel_rfl) (by kernel_rfl) (by kernel_rfl) (fun _ _ _ h => h) (Or.inl ⟨rfl, ?_⟩) (by assumption) ?_
  rotate_left
  · intro W hSw
    (try dsimp only at hSw)
    go_simp
    try with_reducible rfl
  try simp only [List.getElem_toArray, List.getElem_cons_zero, List.getElem_cons_succ, Act.put, List.setIfInBounds_toArray, List.set_cons_zero, List.set_cons_succ]
  refine wpAnyH_take (i := 53) (v := ?_) rfl (by kernel_rfl) (by kernel_rfl) (by kernel_rfl) (fun _ _ _ h => h) (Or.inl ⟨rfl, ?_⟩) (by assumption) ?_
  rotate_left
  · intro W hSw
    (try dsimp only at hSw)
    go_simp
    try with_reducible rfl
  try simp only [List.getElem_toArray, List.getElem_cons_zero, List.getElem_cons_succ, Act.put, List.setIfInBounds_toArray, List.set_cons_zero, List.set_cons_succ]
  refine wpAnyH_take (i := 54) (v := ?_) rfl (by kernel_rfl) (by kernel_rfl) (by kernel_rfl) (fun _ _ _ h => h) (Or.inl ⟨rfl, ?_⟩) (by assumption) ?_
  rotate_left
  · intro W hSw
    (try dsimp only at hSw)
    go_simp
    try with_reducible rfl
  try simp only [List.getElem_toArray, List.getElem_cons_zero, List.getElem_cons_succ, Act.put, List.setIfInBounds_toArray, List.set_cons_zero, List.set_cons_succ]
  refine wpAnyH_take (i := 56) (v := ?_) rfl (by kernel_rfl) (by kernel_rfl) (by kernel_rfl) (fun _ _ _ h => h) (Or.inl ⟨rfl, ?_⟩) (by assumption) ?_
  rotate_left
  · intro W hSw
    (try dsimp only at hSw)
    go_simp
    try with_reducible rfl
  try simp only [List.getElem_toArray, List.getElem_cons_zero, List.getElem_cons_succ, Act.put, List.setIfInBounds_toArray, List.set_cons_zero, List.set_cons_succ]
  have hq0 := hwr.out
  refine wpAnyH_take (i := 57) (v := ?_) rfl (by kernel_rfl) (by kernel_rfl) (by kernel_rfl) (fun _ _ _ h => h) (Or.inl ⟨rfl, ?_⟩) (by assumption) ?_
  rotate_left
  · intro W hSw
    (try dsimp only at hSw)
    go_simp
    try with_reducible rfl
  try simp only [List.getElem_toArray, List.getElem_cons_zero, List.getElem_cons_succ, Act.put, List.setIfInBounds_toArray, List.set_cons_zero, List.set_cons_succ]
  clear hq0
  refine wpAnyH_take (i := 59) (v := ?_) rfl (by kernel_rfl) (by kernel_rfl) (by kernel_rfl) (fun _ _ _ h => h) (Or.inl ⟨rfl, ?_⟩) (by assumption) ?_
  rotate_left
  · intro W hSw
    (try dsimp only at hSw)
    go_simp
    try with_reducible rfl
  try simp only [List.getElem_toArray, List.getElem_cons_zero, List.getElem_cons_succ, Act.put, List.setIfInBounds_toArray, List.set_cons_zero, List.set_cons_succ]
  refine wpAnyH_take (i := 60) (v := ?_) rfl (by kernel_rfl) (by kernel_rfl) (by kernel_rfl) (fun _ _ _ h => h) (Or.inl ⟨rfl, ?_⟩) (by assumption) ?_
  rotate_left
  · intro W hSw
    (try dsimp only at hSw)
    go_simp
    try with_reducible rfl
  try simp only [List.getElem_toArray, List.getElem_cons_zero, List.getElem_cons_succ, Act.put, List.setIfInBounds_toArray, List.set_cons_zero, List.set_cons_succ]
  refine wpAnyH_take (i := 61) (v := ?_) rfl (by kernel_rfl) (by kernel_rfl) (by kernel_rfl) (fun _ _ _ h => h) (Or.inl ⟨rfl, ?_⟩) (by assumption) ?_
  rotate_left
  · intro W hSw
    (try dsimp only at hSw)
    go_simp
    try with_reducible rfl
  try simp only [List.getElem_toArray, List.getElem_cons_zero, List.getElem_cons_succ, Act.put, List.setIfInBounds_toArray, List.set_cons_zero, List.set_cons_succ]
  refine wpAnyH_take (i := 62) (v := ?_) rfl (by kernel_rfl) (by kernel_rfl) (by kernel_rfl) (fun _ _ _ h => h) (Or.inl ⟨rfl, ?_⟩) (by assumption) ?_
  rotate_left
  · intro W hSw
    (try dsimp only at hSw)
    go_simp
    try with_reducible rfl
  try simp only [List.getElem_toArray, List.getElem_cons_zero, List.getElem_cons_succ, Act.put, List.setIfInBounds_toArray, List.set_cons_zero, List.set_cons_succ]
  have hq0 := hwr.out
  refine wpAnyH_take (i := 63) (v := ?_) rfl (by kernel_rfl) (by kernel_rfl) (by kernel_rfl) (fun _ _ _ h => h) (Or.inl ⟨rfl, ?_⟩) (by assumption) ?_
  rotate_left
  · intro W hSw
    (try dsimp only at hSw)
    go_simp
    try with_reducible rfl
  try simp only [List.getElem_toArray, List.getElem_cons_zero, List.getElem_cons_succ, Act.put, List.setIfInBounds_toArray, List.set_cons_zero, List.set_cons_succ]
  clear hq0
  have hq0 := hmin.out
  refine wpAnyH_take (i := 64) (v := ?_) rfl (by kernel_rfl) (by kernel_rfl) (by kernel_rfl) (fun _ _ _ h => h) (Or.inl ⟨rfl, ?_⟩) (by assumption) ?_
  rotate_left
  · intro W hSw
    (try dsimp only at hSw)
    go_simp
    try with_reducible rfl
  try simp only [List.getElem_toArray, List.getElem_cons_zero, List.getElem_cons_succ, Act.put, List.setIfInBounds_toArray, List.set_cons_zero, List.set_cons_succ]
  clear hq0
  have hq0 := hsli.out
  refine wpAnyH_take (i := 65) (v := ?_) rfl (by kernel_rfl) (by kernel_rfl) (by kernel_rfl) (fun _ _ _ h => h) (Or.inl ⟨rfl, ?_⟩) (by assumption) ?_
  rotate_left
  · intro W hSw
    (try dsimp only at hSw)
    go_simp
    try with_reducible rfl
  try simp only [List.getElem_toArray, List.getElem_cons_zero, List.getElem_cons_succ, Act.put, List.setIfInBounds_toArray, List.set_cons_zero, List.set_cons_succ]
  clear hq0
  refine wpAnyH_ready (rs := [55]) (by kernel_rfl) (by simp) (AllReadyH.cons rfl (fun K hK => ?_) AllReadyH.nil)
  go_simp
  refine (h24.out _ hr17).mono ?_
  rintro e w18 ⟨B2, a2, k2, rfl, _, hx2, hd2, ha2, hb⟩
  have hB18 := hB17.trans (hb.mono hB17.size)
  have hr18 := hr17.below hb
  have hle18 := hle17.below hb
  refine hK.out _ _ (hS.out _ hB18) (fun hHeld => ?_)
  clear hK
  try simp only [List.getElem_toArray, List.getElem_cons_zero, List.getElem_cons_succ, Act.put, List.setIfInBounds_toArray, List.set_cons_zero, List.set_cons_succ]
  refine wpAnyH_ready (rs := [58]) (by kernel_rfl) (by simp) (AllReadyH.cons rfl (fun K hK => ?_) AllReadyH.nil)
  go_simp
  refine (hsq.out B2 a2 k2 w17 w18 hx2 hd2 ha2 m m rfl (by omega)).mono ?_
  rintro e w19 ⟨u2, rfl, hu2, hb⟩
  have hB19 := hB18.trans (hb.mono hB18.size)
  have hr19 := hr18.below hb
  have hle19 := hle18.below hb
  refine hK.out _ _ (hS.out _ hB19) (fun hHeld => ?_)
  clear hK
  try simp only [List.getElem_toArray, List.getElem_cons_zero, List.getElem_cons_succ, Act.put, List.setIfInBounds_toArray, List.set_cons_zero, List.set_cons_succ]
  refine wpAnyH_ready (rs := [66]) (by kernel_rfl) (by simp) (AllReadyH.cons rfl (fun K hK => ?_) AllReadyH.nil)
  go_simp
  refine (heq2.out _ _ _ hu2 (htk.out _ hle19)).mono ?_
  rintro e w20 ⟨rfl, hb⟩
  have hB20 := hB19.trans (hb.mono hB19.size)
  have hr20 := hr19.below hb
  have hle20 := hle19.below hb
  refine hK.out _ _ (hS.out _ hB20) (fun hHeld => ?_)
  clear hK
  try simp only [List.getElem_toArray, List.getElem_cons_zero, List.getElem_cons_succ, Act.put, List.setIfInBounds_toArray, List.set_cons_zero, List.set_cons_succ]
  refine wpAnyH_take (i := 67) (v := ?_) rfl (by kernel_rfl) (by kernel_rfl) (by kernel_rfl) (fun _ _ _ h => h) (Or.inl ⟨rfl, ?_⟩) (by assumption) ?_
  rotate_left
  · intro W hSw
    (try dsimp only at hSw)
    go_simp
    try with_reducible rfl
  try simp only [List.getElem_toArray, List.getElem_cons_zero, List.getElem_cons_succ, Act.put, List.setIfInBounds_toArray, List.set_cons_zero, List.set_cons_succ]
  refine wpAnyH_take (i := 68) (v := ?_) rfl (by kernel_rfl) (by kernel_rfl) (by kernel_rfl) (fun _ _ _ h => h) (Or.inl ⟨rfl, ?_⟩) (by assumption) ?_
  rotate_left
  · intro W hSw
    (try dsimp only at hSw)
    go_simp
    try with_reducible rfl
  try simp only [List.getElem_toArray, List.getElem_cons_zero, List.getElem_cons_succ, Act.put, List.setIfInBounds_toArray, List.set_cons_zero, List.set_cons_succ]
  refine wpAnyH_done (by kernel_rfl) ?_ _
  (try dsimp only [NoPanic])
  go_wp2_with fail
  go_ret
  exact ⟨rfl, hBf.out.trans (hB20.mono hBf.out.size)⟩
end Go.Proofs.Ytmlgjmcenjbbeaa
