import Derived.Test.YtlgjlhgdpiipbaaMak
/- Clone: a chip in the same state, in memory of its own. -/
namespace Go.Proofs.Ytlgjlhgdpiipbaa
open Go.RowKit
/-- What the round needs of its append. -/
theorem cl_push {w wr w2 : World} {d bn pn k nb : Nat} {ra pa : Option Addr} {rc pc : Nat} {L : Lay} {qf : Nat → Nat} {ev : Value} {ops : Int} {off : Bool} {bl : Nat → Blk} (hS : CNew w wr d bn pn k (.slice ra k rc) L ev ops off bl)
    (hb : CBlk wr.heap.size w2 nb pn (.slice pa pn pc) qf (bl k)) (hbl : Below wr.heap.size wr w2) (hk : k < 1000) (hp : 0 < pn) :
    w2.cell? ⟨d, 2, none⟩ = some (.slice ra k rc) ∧ (w2.alloc (.cells #[.pointer (some ⟨nb, 0, none⟩)] 81)).cell? ⟨d, 2, none⟩ = some (.slice ra k rc) ∧ ∃ va vn vc w6 L', (Builtin.append_ #[75, 75] 75 #[.slice ra k rc, .slice (some ⟨w2.heap.size, 0, none⟩) 1 1]).run Try.prog (w2.alloc (.cells #[.pointer (some ⟨nb, 0, none⟩)] 81)) = .ok (.slice va vn vc) w6 ∧
      w6.cell? ⟨d, 2, none⟩ = some (.slice ra k rc) ∧ w6.frozen? ⟨d, 2, none⟩ = false ∧ CNew w (w6.setCell ⟨d, 2, none⟩ (.slice va vn vc)) d bn pn (k + 1) (.slice va (k + 1) vc) L' ev ops off bl := by
  have hS2 := hS.below hbl
  have hal : Below w2.heap.size w2 (w2.alloc (.cells #[.pointer (some ⟨nb, 0, none⟩)] 81)) := (Below.refl _ _).alloc (Nat.le_refl _) _
  have hS3 := hS2.below hal
  have hb3 := hb.below hal
  have hs3 : (w2.alloc (.cells #[.pointer (some ⟨nb, 0, none⟩)] 81)).cell? ⟨w2.heap.size, 0, none⟩ = some (ptr nb) := (Box.new w2 81 #[.pointer (some ⟨nb, 0, none⟩)]).get 0 _ rfl
  obtain ⟨v', w6, L', hrun, hg, hcx, ⟨va, vc, rfl⟩, hN⟩ := hS3.push hb3 hk hp ⟨hS.bel.size, hS.chip.lt, fun x hx => ⟨(hS.blk x hx).lt, (hS.prow x hx).lt, fun j hj => (hS.byt x hx j hj).lt⟩⟩ w2.heap.size hs3 75
  exact ⟨hS2.chip.get 2 _ rfl, hS3.chip.get 2 _ rfl, va, k + 1, vc, w6, L', hrun, hcx.get 2 _ rfl, hcx.frozen 2, hN⟩
theorem cNew_zero {w W : World} {c bn pn : Nat} {ev : Value} {ops : Int} {off : Bool} {bl : Nat → Blk} (hc : Box W c 77 #[.int .i64 bn, .int .i64 pn, .slice none 0 0, ev, .int .i64 ops, .bool off]) (hcw : w.heap.size ≤ c) (hb : Below w.heap.size w W) : CNew w W c bn pn 0 (.slice none 0 0) lay0 ev ops off bl where
  chip := hc
  own := World.ownsRow_nil _ _ _ _
  blk x hx := by omega
  prow x hx := by omega
  prowAt x hx := by omega
  byt x hx := by omega
  kinj x hx := by omega
  pinj x hx := by omega
  qinj x hx := by omega
  gec := hcw
  gek x hx := by omega
  gep x hx := by omega
  geq x hx := by omega
  bel := hb
/-- Of a chip's block: its copy. -/
theorem ChipR.copies {W : World} {Fm Fr : Nat → Prop} {c : Nat} {st : Chip} {L : Lay} (h : ChipR W Fm Fr c st L) {i : Nat} (hi : i < st.bn) :
    Calls Try.prog 43 #[.pointer (some ⟨L.k i, 0, none⟩)] W (fun e w' => ∃ nb pa pc qf, e = .returned (.pointer (some ⟨nb, 0, none⟩)) ∧ CBlk W.heap.size w' nb st.pn (.slice pa st.pn pc) qf (st.blk i) ∧ Below W.heap.size W w') := by
  refine copies_any (L.k i) (L.p i) (L.parr i).size (L.parr i) (L.q i) (st.blk i).pages (st.blk i).look W h.bnd.2.2.2 (h.blk i hi) (h.prow i hi) (h.prowAt i hi) (h.byt i hi) (h.len i hi) ?_
  have hp := h.bnd.2.2.1
  have := (Array.getElem?_eq_some_iff.1 (h.prowAt i hi (st.pn - 1) (by omega))).1
  omega
def CloneRes (Fr : Nat → Prop) (st : Chip) (w : World) (e : Ending) (w' : World) : Prop :=
  ∃ d Fm' Fr' L', e = .returned (.pointer (some ⟨d, 0, none⟩)) ∧ ChipR w' Fm' Fr' d st L' ∧ (∀ b, Fm' b → w.heap.size ≤ b) ∧ (∀ b, Fr' b → Fr b ∨ w.heap.size ≤ b) ∧ Below w.heap.size w w'
theorem clone_end {w w4 W : World} {Fm Fr : Nat → Prop} {c d : Nat} {st : Chip} {L L1 : Lay} {ra : Option Addr} {rc : Nat} {ev : Value} (h : ChipR w Fm Fr c st L) (h4 : Below w.heap.size w w4) (hev : EvS w4 (fun b => Fr b ∨ (w.heap.size ≤ b ∧ b < w4.heap.size)) ev st.evs) (hN : CNew w4 W d st.bn st.pn st.bn (.slice ra st.bn rc) L1 ev st.ops st.off st.blk) :
    CloneRes Fr st w (.returned (.pointer (some ⟨d, 0, none⟩))) W := by
  have hF4 : ∀ b, (Fr b ∨ (w.heap.size ≤ b ∧ b < w4.heap.size)) → b < w4.heap.size := fun b hb => by
    rcases hb with hb | hb
    · exact Nat.lt_of_lt_of_le (h.ltr b hb) h4.size
    · exact hb.2
  obtain ⟨L', hC, hge⟩ := hN.chipR (fun b => Fr b ∨ (w.heap.size ≤ b ∧ b < w4.heap.size)) hF4 ((evS_mono (hev.same ⟨fun b hb => hN.bel.block b (hF4 b hb), hN.bel.size⟩) (fun b hb => .inl hb))) h.len h.opsb h.bnd
  refine ⟨d, _, _, L', rfl, hC, fun b hb => Nat.le_trans h4.size (hge b hb), fun b hb => ?_, h4.trans (hN.bel.mono h4.size)⟩
  rcases hb with (hb | hb) | hb
  · exact .inl hb
  · exact .inr hb.1
  · exact .inr (Nat.le_trans h4.size hb.1)
set_option maxRecDepth 100000 in
set_option maxHeartbeats 16000000 in
theorem clone25_any {w : World} {Fm Fr : Nat → Prop} {c : Nat} {st : Chip} {L : Lay} (h : ChipR w Fm Fr c st L) (hl : st.evs.length ≤ 1048576) : Calls Try.prog 25 #[.pointer (some ⟨c, 0, none⟩)] w (CloneRes Fr st w) := by
  have hmd := Lib.hid (made_any h)
  have hec := Lib.hid (fun W (hW : Below w.heap.size w W) => evclone_any st.evs L.ev W (h.below hW).evs (fun b hb => Nat.lt_of_lt_of_le (h.ltr b hb) hW.size) hl)
  have hend := Lib.hid (fun w4 W d L1 ra rc ev => @clone_end w w4 W Fm Fr c d st L L1 ra rc ev h)
  have hcps := Lib.hid (fun W (hW : Below w.heap.size w W) i (hi : i < st.bn) => (h.below hW).copies hi)
  have hat := Lib.hid (fun W (hW : Below w.heap.size w W) i (hi : i < st.bn) => ((h.below hW).row.get i _ ((h.below hW).rowAt i hi)))
  have hc := h.chip
  have hbn := h.bnd
  obtain ⟨va, vc, hve⟩ := h.evs.len
  obtain ⟨bn, hbn'⟩ : ∃ x, st.bn = x := ⟨_, rfl⟩
  obtain ⟨pn, hpn'⟩ : ∃ x, st.pn = x := ⟨_, rfl⟩
  obtain ⟨ops, hops'⟩ : ∃ x, st.ops = x := ⟨_, rfl⟩
  obtain ⟨off, hoff'⟩ : ∃ x, st.off = x := ⟨_, rfl⟩
  obtain ⟨en, hen'⟩ : ∃ x, st.evs.length = x := ⟨_, rfl⟩
  unfold chipA at hc
  rw [hen'] at hve
  rw [hve] at hc hec
  rw [hbn', hpn', hops', hoff'] at hc
  rw [hbn', hpn'] at hbn
  rw [hbn', hpn'] at hcps
  rw [hbn'] at hat
  rw [hbn', hpn', hops', hoff'] at hend
  obtain ⟨bz, hbz⟩ : ∃ x, L.barr.size = x := ⟨_, rfl⟩
  rw [hbz] at hc
  obtain ⟨ba, hba⟩ : ∃ x, L.ba = x := ⟨_, rfl⟩
  rw [hba] at hc hat
  obtain ⟨kf, hkf⟩ : ∃ x, L.k = x := ⟨_, rfl⟩
  rw [hkf] at hcps hat
  obtain ⟨bl, hbl⟩ : ∃ x, st.blk = x := ⟨_, rfl⟩
  rw [hbl] at hcps hend
  obtain ⟨evs, hevs⟩ : ∃ x, st.evs = x := ⟨_, rfl⟩
  rw [hevs] at hec hend
  have hS := Lib.hid (fun W (hW : Below w.heap.size w W) => show (fun W => W.cell? ⟨c, 0, none⟩ = some (.int .i64 bn) ∧ W.cell? ⟨c, 1, none⟩ = some (.int .i64 pn) ∧ W.cell? ⟨c, 3, none⟩ = some (.slice va en vc) ∧ W.cell? ⟨c, 4, none⟩ = some (.int .i64 ops) ∧ W.cell? ⟨c, 5, none⟩ = some (.bool off)) W from ⟨(hc.below hW).get 0 _ rfl, (hc.below hW).get 1 _ rfl, (hc.below hW).get 3 _ rfl, (hc.below hW).get 4 _ rfl, (hc.below hW).get 5 _ rfl⟩)
  have hS2 := Lib.hid (fun W (hW : Below w.heap.size w W) => show W.cell? ⟨c, 2, none⟩ = some (.slice (some ⟨ba, 0, none⟩) bn bz) from (hc.below hW).get 2 _ rfl)
  clear h hc hve hbn' hpn' hops' hoff' hen' hbz hba hkf hbl hevs hl
  go_enter Try.func25, Try.ntmps25
  go_upto_region 3 with (go_at_call 36; (with_reducible refine hmd.out.mono ?_); rintro e w' ⟨rfl, hw⟩; obtain rfl := hw.symm)
  clear hmd
  have hd0 := (Below.refl w.heap.size w).drew
  refine wp_region_noPanic ?_
  refine wp_region_held_drew (S := fun W => W.cell? ⟨c, 0, none⟩ = some (.int .i64 bn) ∧ W.cell? ⟨c, 1, none⟩ = some (.int .i64 pn) ∧ W.cell? ⟨c, 3, none⟩ = some (.slice va en vc) ∧ W.cell? ⟨c, 4, none⟩ = some (.int .i64 ops) ∧ W.cell? ⟨c, 5, none⟩ = some (.bool off)) (by kernel_rfl) (hS.out _ hd0) (fun hHeld => ?_)
  refine wpAnyH_take (i := 0) (v := ?_) rfl (by kernel_rfl) (by kernel_rfl) (by kernel_rfl) (fun _ _ _ h => h) (Or.inl ⟨rfl, ?_⟩) (by assumption) ?_
  rotate_left
  · intro W hSw
    (try dsimp only at hSw)
    go_simp
    try with_reducible rfl
  try simp only [List.getElem_toArray, List.getElem_cons_zero, List.getElem_cons_succ, Act.put, List.setIfInBounds_toArray, List.set_cons_zero, List.set_cons_succ]
  refine wpAnyH_take (i := 1) (v := ?_) rfl (by kernel_rfl) (by kernel_rfl) (by kernel_rfl) (fun _ _ _ h => h) (Or.inl ⟨rfl, ?_⟩) (by assumption) ?_
  rotate_left
  · intro W hSw
    (try dsimp only at hSw)
    go_simp
    try with_reducible rfl
  try simp only [List.getElem_toArray, List.getElem_cons_zero, List.getElem_cons_succ, Act.put, List.setIfInBounds_toArray, List.set_cons_zero, List.set_cons_succ]
  refine wpAnyH_take (i := 2) (v := ?_) rfl (by kernel_rfl) (by kernel_rfl) (by kernel_rfl) (fun _ _ _ h => h) (Or.inl ⟨rfl, ?_⟩) (by assumption) ?_
  rotate_left
  · intro W hSw
    (try dsimp only at hSw)
    go_simp
    try with_reducible rfl
  try simp only [List.getElem_toArray, List.getElem_cons_zero, List.getElem_cons_succ, Act.put, List.setIfInBounds_toArray, List.set_cons_zero, List.set_cons_succ]
  refine wpAnyH_take (i := 3) (v := ?_) rfl (by kernel_rfl) (by kernel_rfl) (by kernel_rfl) (fun _ _ _ h => h) (Or.inl ⟨rfl, ?_⟩) (by assumption) ?_
  rotate_left
  · intro W hSw
    (try dsimp only at hSw)
    go_simp
    try with_reducible rfl
  try simp only [List.getElem_toArray, List.getElem_cons_zero, List.getElem_cons_succ, Act.put, List.setIfInBounds_toArray, List.set_cons_zero, List.set_cons_succ]
  refine wpAnyH_take (i := 4) (v := ?_) rfl (by kernel_rfl) (by kernel_rfl) (by kernel_rfl) (fun _ _ _ h => h) (Or.inl ⟨rfl, ?_⟩) (by assumption) ?_
  rotate_left
  · intro W hSw
    (try dsimp only at hSw)
    go_simp
    try with_reducible rfl
  try simp only [List.getElem_toArray, List.getElem_cons_zero, List.getElem_cons_succ, Act.put, List.setIfInBounds_toArray, List.set_cons_zero, List.set_cons_succ]
  refine wpAnyH_take (i := 5) (v := ?_) rfl (by kernel_rfl) (by kernel_rfl) (by kernel_rfl) (fun _ _ _ h => h) (Or.inl ⟨rfl, ?_⟩) (by assumption) ?_
  rotate_left
  · intro W hSw
    (try dsimp only at hSw)
    go_simp
    try with_reducible rfl
  try simp only [List.getElem_toArray, List.getElem_cons_zero, List.getElem_cons_succ, Act.put, List.setIfInBounds_toArray, List.set_cons_zero, List.set_cons_succ]
  refine wpAnyH_take (i := 6) (v := ?_) rfl (by kernel_rfl) (by kernel_rfl) (by kernel_rfl) (fun _ _ _ h => h) (Or.inl ⟨rfl, ?_⟩) (by assumption) ?_
  rotate_left
  · intro W hSw
    (try dsimp only at hSw)
    go_simp
    try with_reducible rfl
  try simp only [List.getElem_toArray, List.getElem_cons_zero, List.getElem_cons_succ, Act.put, List.setIfInBounds_toArray, List.set_cons_zero, List.set_cons_succ]
  refine wpAnyH_take (i := 7) (v := ?_) rfl (by kernel_rfl) (by kernel_rfl) (by kernel_rfl) (fun _ _ _ h => h) (Or.inl ⟨rfl, ?_⟩) (by assumption) ?_
  rotate_left
  · intro W hSw
    (try dsimp only at hSw)
    go_simp
    try with_reducible rfl
  try simp only [List.getElem_toArray, List.getElem_cons_zero, List.getElem_cons_succ, Act.put, List.setIfInBounds_toArray, List.set_cons_zero, List.set_cons_succ]
  refine wpAnyH_take (i := 9) (v := ?_) rfl (by kernel_rfl) (by kernel_rfl) (by kernel_rfl) (fun _ _ _ h => h) (Or.inl ⟨rfl, ?_⟩) (by assumption) ?_
  rotate_left
  · intro W hSw
    (try dsimp only at hSw)
    go_simp
    try with_reducible rfl
  try simp only [List.getElem_toArray, List.getElem_cons_zero, List.getElem_cons_succ, Act.put, List.setIfInBounds_toArray, List.set_cons_zero, List.set_cons_succ]
  refine wpAnyH_take (i := 10) (v := ?_) rfl (by kernel_rfl) (by kernel_rfl) (by kernel_rfl) (fun _ _ _ h => h) (Or.inl ⟨rfl, ?_⟩) (by assumption) ?_
  rotate_left
  · intro W hSw
    (try dsimp only at hSw)
    go_simp
    try with_reducible rfl
  try simp only [List.getElem_toArray, List.getElem_cons_zero, List.getElem_cons_succ, Act.put, List.setIfInBounds_toArray, List.set_cons_zero, List.set_cons_succ]
  refine wpAnyH_take (i := 11) (v := ?_) rfl (by kernel_rfl) (by kernel_rfl) (by kernel_rfl) (fun _ _ _ h => h) (Or.inl ⟨rfl, ?_⟩) (by assumption) ?_
  rotate_left
  · intro W hSw
    (try dsimp only at hSw)
    go_simp
    try with_reducible rfl
  try simp only [List.getElem_toArray, List.getElem_cons_zero, List.getElem_cons_succ, Act.put, List.setIfInBounds_toArray, List.set_cons_zero, List.set_cons_succ]
  refine wpAnyH_take (i := 12) (v := ?_) rfl (by kernel_rfl) (by kernel_rfl) (by kernel_rfl) (fun _ _ _ h => h) (Or.inl ⟨rfl, ?_⟩) (by assumption) ?_
  rotate_left
  · intro W hSw
    (try dsimp only at hSw)
    go_simp
    try with_reducible rfl
  try simp only [List.getElem_toArray, List.getElem_cons_zero, List.getElem_cons_succ, Act.put, List.setIfInBounds_toArray, List.set_cons_zero, List.set_cons_succ]
  refine wpAnyH_take (i := 13) (v := ?_) rfl (by kernel_rfl) (by kernel_rfl) (by kernel_rfl) (fun _ _ _ h => h) (Or.inl ⟨rfl, ?_⟩) (by assumption) ?_
  rotate_left
  · intro W hSw
    (try dsimp only at hSw)
    go_simp
    try with_reducible rfl
  try simp only [List.getElem_toArray, List.getElem_cons_zero, List.getElem_cons_succ, Act.put, List.setIfInBounds_toArray, List.set_cons_zero, List.set_cons_succ]
  refine wpAnyH_take (i := 14) (v := ?_) rfl (by kernel_rfl) (by kernel_rfl) (by kernel_rfl) (fun _ _ _ h => h) (Or.inl ⟨rfl, ?_⟩) (by assumption) ?_
  rotate_left
  · intro W hSw
    (try dsimp only at hSw)
    go_simp
    try with_reducible rfl
  try simp only [List.getElem_toArray, List.getElem_cons_zero, List.getElem_cons_succ, Act.put, List.setIfInBounds_toArray, List.set_cons_zero, List.set_cons_succ]
  refine wpAnyH_take (i := 15) (v := ?_) rfl (by kernel_rfl) (by kernel_rfl) (by kernel_rfl) (fun _ _ _ h => h) (Or.inl ⟨rfl, ?_⟩) (by assumption) ?_
  rotate_left
  · intro W hSw
    (try dsimp only at hSw)
    go_simp
    try with_reducible rfl
  try simp only [List.getElem_toArray, List.getElem_cons_zero, List.getElem_cons_succ, Act.put, List.setIfInBounds_toArray, List.set_cons_zero, List.set_cons_succ]
  refine wpAnyH_take (i := 16) (v := ?_) rfl (by kernel_rfl) (by kernel_rfl) (by kernel_rfl) (fun _ _ _ h => h) (Or.inl ⟨rfl, ?_⟩) (by assumption) ?_
  rotate_left
  · intro W hSw
    (try dsimp only at hSw)
    go_simp
    try with_reducible rfl
  try simp only [List.getElem_toArray, List.getElem_cons_zero, List.getElem_cons_succ, Act.put, List.setIfInBounds_toArray, List.set_cons_zero, List.set_cons_succ]
  refine wpAnyH_ready (rs := [8]) (by kernel_rfl) (by simp) (AllReadyH.cons rfl (fun K hK => ?_) AllReadyH.nil)
  go_simp
  refine (hec.out _ hd0).mono ?_
  rintro e w4 ⟨v4, rfl, hev4, hb4⟩
  obtain ⟨xa, xc, rfl⟩ := hev4.len
  obtain ⟨xn, hxn⟩ : ∃ n, evs.length = n := ⟨_, rfl⟩
  rw [hxn] at hev4 ⊢
  have h4 := hd0.trans (hb4.mono hd0.size)
  clear hb4
  refine hK.out _ _ (hS.out _ h4) (fun hHeld => ?_)
  clear hK
  try simp only [List.getElem_toArray, List.getElem_cons_zero, List.getElem_cons_succ, Act.put, List.setIfInBounds_toArray, List.set_cons_zero, List.set_cons_succ]
  refine wpAnyH_take (i := 17) (v := .agg #[.int .i64 bn, .int .i64 pn, .slice none 0 0, .slice xa xn xc, .int .i64 ops, .bool off]) rfl (by kernel_rfl) (by kernel_rfl) (by kernel_rfl) (fun _ _ _ h => h) (Or.inl ⟨rfl, ?_⟩) (by assumption) ?_
  · intro W hSw
    clear hSw
    go_simp
    try rfl
  try simp only [List.getElem_toArray, List.getElem_cons_zero, List.getElem_cons_succ, Act.put, List.setIfInBounds_toArray, List.set_cons_zero, List.set_cons_succ]
  refine wpAnyH_ready (rs := [18]) (by kernel_rfl) (by simp) (AllReadyH.cons rfl (fun K hK => ?_) AllReadyH.nil)
  go_simp
  have hal4 := (Below.refl w4.heap.size w4).alloc (Nat.le_refl _) (.cells #[.int .i64 bn, .int .i64 pn, .slice none 0 0, .slice xa xn xc, .int .i64 ops, .bool off] 77)
  have h5 := h4.trans (hal4.mono h4.size)
  refine hK.out _ _ (hS.out _ h5) (fun hHeld => ?_)
  clear hK
  try simp only [List.getElem_toArray, List.getElem_cons_zero, List.getElem_cons_succ, Act.put, List.setIfInBounds_toArray, List.set_cons_zero, List.set_cons_succ]
  refine wpAnyH_take (i := 19) (v := ?_) rfl (by kernel_rfl) (by kernel_rfl) (by kernel_rfl) (fun _ _ _ h => h) (Or.inl ⟨rfl, ?_⟩) (by assumption) ?_
  rotate_left
  · intro W hSw
    (try dsimp only at hSw)
    go_simp
    try with_reducible rfl
  try simp only [List.getElem_toArray, List.getElem_cons_zero, List.getElem_cons_succ, Act.put, List.setIfInBounds_toArray, List.set_cons_zero, List.set_cons_succ]
  refine wpAnyH_done (by kernel_rfl) ?_ _
  (try dsimp only [NoPanic])
  have bx := Box.new w4 77 #[.int .i64 bn, .int .i64 pn, .slice none 0 0, .slice xa xn xc, .int .i64 ops, .bool off]
  have hN0 := cNew_zero (bl := bl) bx (Nat.le_refl _) hal4
  replace hN0 := Lib.hid hN0
  replace hend := Lib.hid (fun W d L1 ra rc => hend.out w4 W d L1 ra rc _ h4 hev4)
  replace hev4 := Lib.hid hev4
  obtain ⟨W5, hW5⟩ : ∃ W, w4.alloc (.cells #[.int .i64 bn, .int .i64 pn, .slice none 0 0, .slice xa xn xc, .int .i64 ops, .bool off] 77) = W := ⟨_, rfl⟩
  obtain ⟨d, hd⟩ : ∃ d, w4.heap.size = d := ⟨_, rfl⟩
  rw [hW5, hd] at hN0
  rw [hW5] at h5 ⊢
  rw [hd]
  have r2 := hS2.out _ h5
  clear hev4 hal4 hW5 bx hS
  go_wp2_with fail
  clear r2
  go_loopw [33] (fun x wr => ∃ (k : Nat) (ra : Option Addr) (rc : Nat) (L1 : Lay), k ≤ bn ∧ x = .int .i64 k ∧ CNew w4 wr d bn pn k (.slice ra k rc) L1 (.slice xa xn xc) ops off bl) (fun x _ => bn - (intOf x).toNat)
  case atStart => exact ⟨0, none, 0, lay0, by omega, rfl, hN0.out⟩
  case round =>
    clear hN0
    obtain ⟨k, ra, rc, L1, hk, rfl, hN⟩ := hrel
    have hbw := h4.trans (hN.bel.mono h4.size)
    by_cases hlt : k < bn
    · have hat1 := hat.out _ hbw k hlt
      unfold ptr at hat1
      have hbd := hbw.trans (((Below.refl wr.heap.size wr).drew).mono hbw.size)
      have hcp := Lib.hid (hcps.out wr.drew hbd k hlt)
      have hNd := hN.below ((Below.refl wr.heap.size wr).drew)
      have hpush := Lib.hid (fun (w6 : World) (nb : Nat) (pa : Option Addr) (pc : Nat) (qf : Nat → Nat) (hb : CBlk wr.drew.heap.size w6 nb pn (.slice pa pn pc) qf (bl k)) (hbl : Below wr.drew.heap.size wr.drew w6) => cl_push hNd hb hbl (by omega) hbn.2.2.1)
      have x1 : wr.drew.cell? ⟨d, 2, none⟩ = some (.slice ra k rc) := hNd.chip.get 2 _ rfl
      have hI0 : (0 : Int) ≤ (k : Int) := by omega
      have hI1 : (k : Int) < (bn : Int) := by omega
      have hb256 : bn ≤ 256 := hbn.2.1
      replace hbn := Lib.hid hbn
      clear hN hNd hbw hbd
      go_upto_region 7 with fail
      clear hat1
      refine wp_region_noPanic ?_
      refine wp_region_held_drew (S := fun _ => True) (by kernel_rfl) (trivial) (fun hHeld => ?_)
      refine wpAnyH_take (i := 0) (v := ?_) rfl (by kernel_rfl) (by kernel_rfl) (by kernel_rfl) (fun _ _ _ h => h) (Or.inl ⟨rfl, ?_⟩) (by assumption) ?_
      rotate_left
      · intro W hSw
        (try dsimp only at hSw)
        go_simp
        try with_reducible rfl
      try simp only [List.getElem_toArray, List.getElem_cons_zero, List.getElem_cons_succ, Act.put, List.setIfInBounds_toArray, List.set_cons_zero, List.set_cons_succ]
      refine wpAnyH_take (i := 1) (v := ?_) rfl (by kernel_rfl) (by kernel_rfl) (by kernel_rfl) (fun _ _ _ h => h) (Or.inl ⟨rfl, ?_⟩) (by assumption) ?_
      rotate_left
      · intro W hSw
        (try dsimp only at hSw)
        go_simp
        try with_reducible rfl
      try simp only [List.getElem_toArray, List.getElem_cons_zero, List.getElem_cons_succ, Act.put, List.setIfInBounds_toArray, List.set_cons_zero, List.set_cons_succ]
      refine wpAnyH_take (i := 2) (v := ?_) rfl (by kernel_rfl) (by kernel_rfl) (by kernel_rfl) (fun _ _ _ h => h) (Or.inl ⟨rfl, ?_⟩) (by assumption) ?_
      rotate_left
      · intro W hSw
        (try dsimp only at hSw)
        go_simp
        try with_reducible rfl
      try simp only [List.getElem_toArray, List.getElem_cons_zero, List.getElem_cons_succ, Act.put, List.setIfInBounds_toArray, List.set_cons_zero, List.set_cons_succ]
      refine wpAnyH_take (i := 3) (v := ?_) rfl (by kernel_rfl) (by kernel_rfl) (by kernel_rfl) (fun _ _ _ h => h) (Or.inl ⟨rfl, ?_⟩) (by assumption) ?_
      rotate_left
      · intro W hSw
        (try dsimp only at hSw)
        go_simp
        try with_reducible rfl
      try simp only [List.getElem_toArray, List.getElem_cons_zero, List.getElem_cons_succ, Act.put, List.setIfInBounds_toArray, List.set_cons_zero, List.set_cons_succ]
      refine wpAnyH_take (i := 5) (v := ?_) rfl (by kernel_rfl) (by kernel_rfl) (by kernel_rfl) (fun _ _ _ h => h) (Or.inl ⟨rfl, ?_⟩) (by assumption) ?_
      rotate_left
      · intro W hSw
        (try dsimp only at hSw)
        go_simp
        try with_reducible rfl
      try simp only [List.getElem_toArray, List.getElem_cons_zero, List.getElem_cons_succ, Act.put, List.setIfInBounds_toArray, List.set_cons_zero, List.set_cons_succ]
      refine wpAnyH_ready (rs := [4, 6]) (by kernel_rfl) (by simp) (AllReadyH.cons rfl (fun K hK => ?_) (AllReadyH.cons rfl (fun K hK => ?_) AllReadyH.nil))
      · go_simp
        refine hK.out _ _ (trivial) (fun hHeld => ?_)
        clear hK
        try simp only [List.getElem_toArray, List.getElem_cons_zero, List.getElem_cons_succ, Act.put, List.setIfInBounds_toArray, List.set_cons_zero, List.set_cons_succ]
        refine wpAnyH_ready (rs := [6]) (by kernel_rfl) (by simp) (AllReadyH.cons rfl (fun K hK => ?_) AllReadyH.nil)
        go_simp
        refine hcp.out.mono ?_
        rintro e w6 ⟨nb, pa, pc, qf, rfl, hCB, hb6⟩
        obtain ⟨x2, x3, ua, un, uc, w8, L2, hrun, x4, x5, hN2⟩ := hpush.out w6 nb pa pc qf hCB hb6
        replace hrun := Lib.hid hrun
        replace hN2 := Lib.hid hN2
        clear hCB hb6
        refine hK.out _ _ (trivial) (fun hHeld => ?_)
        clear hK
        try simp only [List.getElem_toArray, List.getElem_cons_zero, List.getElem_cons_succ, Act.put, List.setIfInBounds_toArray, List.set_cons_zero, List.set_cons_succ]
        refine wpAnyH_ready (rs := [7]) (by kernel_rfl) (by simp) (AllReadyH.cons rfl (fun K hK => ?_) AllReadyH.nil)
        go_simp
        refine hK.out _ _ (trivial) (fun hHeld => ?_)
        clear hK
        try simp only [List.getElem_toArray, List.getElem_cons_zero, List.getElem_cons_succ, Act.put, List.setIfInBounds_toArray, List.set_cons_zero, List.set_cons_succ]
        refine wpAnyH_ready (rs := [8]) (by kernel_rfl) (by simp) (AllReadyH.cons rfl (fun K hK => ?_) AllReadyH.nil)
        refine step_append_run rfl (.tmp 41) (.tmp 44) 75 75 rfl _ _ rfl rfl _ _ hrun.out ?_
        refine hK.out _ _ (trivial) (fun hHeld => ?_)
        clear hK
        try simp only [List.getElem_toArray, List.getElem_cons_zero, List.getElem_cons_succ, Act.put, List.setIfInBounds_toArray, List.set_cons_zero, List.set_cons_succ]
        refine wpAnyH_take (i := 9) (v := ?_) rfl (by kernel_rfl) (by kernel_rfl) (by kernel_rfl) (fun _ _ _ h => h) (Or.inl ⟨rfl, ?_⟩) (by assumption) ?_
        rotate_left
        · intro W hSw
          (try dsimp only at hSw)
          go_simp
          try with_reducible rfl
        try simp only [List.getElem_toArray, List.getElem_cons_zero, List.getElem_cons_succ, Act.put, List.setIfInBounds_toArray, List.set_cons_zero, List.set_cons_succ]
        refine wpAnyH_take (i := 10) (v := ?_) rfl (by kernel_rfl) (by kernel_rfl) (by kernel_rfl) (fun _ _ _ h => h) (Or.inl ⟨rfl, ?_⟩) (by assumption) ?_
        rotate_left
        · intro W hSw
          (try dsimp only at hSw)
          go_simp
          try with_reducible rfl
        try simp only [List.getElem_toArray, List.getElem_cons_zero, List.getElem_cons_succ, Act.put, List.setIfInBounds_toArray, List.set_cons_zero, List.set_cons_succ]
        refine wpAnyH_ready (rs := [11]) (by kernel_rfl) (by simp) (AllReadyH.cons rfl (fun K hK => ?_) AllReadyH.nil)
        go_simp
        refine hK.out _ _ (trivial) (fun hHeld => ?_)
        clear hK
        try simp only [List.getElem_toArray, List.getElem_cons_zero, List.getElem_cons_succ, Act.put, List.setIfInBounds_toArray, List.set_cons_zero, List.set_cons_succ]
        refine wpAnyH_done (by kernel_rfl) ?_ _
        (try dsimp only [NoPanic])
        go_wp2_with fail
        go_roundw
        case rel => exact ⟨k + 1, _, _, _, by omega, by go_num, hN2.out⟩
        case measure => simp [intOf]; omega
      · go_simp
        refine hcp.out.mono ?_
        rintro e w6 ⟨nb, pa, pc, qf, rfl, hCB, hb6⟩
        obtain ⟨x2, x3, ua, un, uc, w8, L2, hrun, x4, x5, hN2⟩ := hpush.out w6 nb pa pc qf hCB hb6
        replace hrun := Lib.hid hrun
        replace hN2 := Lib.hid hN2
        clear hCB hb6
        refine hK.out _ _ (trivial) (fun hHeld => ?_)
        clear hK
        try simp only [List.getElem_toArray, List.getElem_cons_zero, List.getElem_cons_succ, Act.put, List.setIfInBounds_toArray, List.set_cons_zero, List.set_cons_succ]
        refine wpAnyH_ready (rs := [4, 7]) (by kernel_rfl) (by simp) (AllReadyH.cons rfl (fun K hK => ?_) (AllReadyH.cons rfl (fun K hK => ?_) AllReadyH.nil))
        · go_simp
          refine hK.out _ _ (trivial) (fun hHeld => ?_)
          clear hK
          try simp only [List.getElem_toArray, List.getElem_cons_zero, List.getElem_cons_succ, Act.put, List.setIfInBounds_toArray, List.set_cons_zero, List.set_cons_succ]
          refine wpAnyH_ready (rs := [7]) (by kernel_rfl) (by simp) (AllReadyH.cons rfl (fun K hK => ?_) AllReadyH.nil)
          go_simp
          refine hK.out _ _ (trivial) (fun hHeld => ?_)
          clear hK
          try simp only [List.getElem_toArray, List.getElem_cons_zero, List.getElem_cons_succ, Act.put, List.setIfInBounds_toArray, List.set_cons_zero, List.set_cons_succ]
          refine wpAnyH_ready (rs := [8]) (by kernel_rfl) (by simp) (AllReadyH.cons rfl (fun K hK => ?_) AllReadyH.nil)
          refine step_append_run rfl (.tmp 41) (.tmp 44) 75 75 rfl _ _ rfl rfl _ _ hrun.out ?_
          refine hK.out _ _ (trivial) (fun hHeld => ?_)
          clear hK
          try simp only [List.getElem_toArray, List.getElem_cons_zero, List.getElem_cons_succ, Act.put, List.setIfInBounds_toArray, List.set_cons_zero, List.set_cons_succ]
          refine wpAnyH_take (i := 9) (v := ?_) rfl (by kernel_rfl) (by kernel_rfl) (by kernel_rfl) (fun _ _ _ h => h) (Or.inl ⟨rfl, ?_⟩) (by assumption) ?_
          rotate_left
          · intro W hSw
            (try dsimp only at hSw)
            go_simp
            try with_reducible rfl
          try simp only [List.getElem_toArray, List.getElem_cons_zero, List.getElem_cons_succ, Act.put, List.setIfInBounds_toArray, List.set_cons_zero, List.set_cons_succ]
          refine wpAnyH_take (i := 10) (v := ?_) rfl (by kernel_rfl) (by kernel_rfl) (by kernel_rfl) (fun _ _ _ h => h) (Or.inl ⟨rfl, ?_⟩) (by assumption) ?_
          rotate_left
          · intro W hSw
            (try dsimp only at hSw)
            go_simp
            try with_reducible rfl
          try simp only [List.getElem_toArray, List.getElem_cons_zero, List.getElem_cons_succ, Act.put, List.setIfInBounds_toArray, List.set_cons_zero, List.set_cons_succ]
          refine wpAnyH_ready (rs := [11]) (by kernel_rfl) (by simp) (AllReadyH.cons rfl (fun K hK => ?_) AllReadyH.nil)
          go_simp
          refine hK.out _ _ (trivial) (fun hHeld => ?_)
          clear hK
          try simp only [List.getElem_toArray, List.getElem_cons_zero, List.getElem_cons_succ, Act.put, List.setIfInBounds_toArray, List.set_cons_zero, List.set_cons_succ]
          refine wpAnyH_done (by kernel_rfl) ?_ _
          (try dsimp only [NoPanic])
          go_wp2_with fail
          go_roundw
          case rel => exact ⟨k + 1, _, _, _, by omega, by go_num, hN2.out⟩
          case measure => simp [intOf]; omega
        · go_simp
          refine hK.out _ _ (trivial) (fun hHeld => ?_)
          clear hK
          try simp only [List.getElem_toArray, List.getElem_cons_zero, List.getElem_cons_succ, Act.put, List.setIfInBounds_toArray, List.set_cons_zero, List.set_cons_succ]
          refine wpAnyH_ready (rs := [4]) (by kernel_rfl) (by simp) (AllReadyH.cons rfl (fun K hK => ?_) AllReadyH.nil)
          go_simp
          refine hK.out _ _ (trivial) (fun hHeld => ?_)
          clear hK
          try simp only [List.getElem_toArray, List.getElem_cons_zero, List.getElem_cons_succ, Act.put, List.setIfInBounds_toArray, List.set_cons_zero, List.set_cons_succ]
          refine wpAnyH_ready (rs := [8]) (by kernel_rfl) (by simp) (AllReadyH.cons rfl (fun K hK => ?_) AllReadyH.nil)
          refine step_append_run rfl (.tmp 41) (.tmp 44) 75 75 rfl _ _ rfl rfl _ _ hrun.out ?_
          refine hK.out _ _ (trivial) (fun hHeld => ?_)
          clear hK
          try simp only [List.getElem_toArray, List.getElem_cons_zero, List.getElem_cons_succ, Act.put, List.setIfInBounds_toArray, List.set_cons_zero, List.set_cons_succ]
          refine wpAnyH_take (i := 9) (v := ?_) rfl (by kernel_rfl) (by kernel_rfl) (by kernel_rfl) (fun _ _ _ h => h) (Or.inl ⟨rfl, ?_⟩) (by assumption) ?_
          rotate_left
          · intro W hSw
            (try dsimp only at hSw)
            go_simp
            try with_reducible rfl
          try simp only [List.getElem_toArray, List.getElem_cons_zero, List.getElem_cons_succ, Act.put, List.setIfInBounds_toArray, List.set_cons_zero, List.set_cons_succ]
          refine wpAnyH_take (i := 10) (v := ?_) rfl (by kernel_rfl) (by kernel_rfl) (by kernel_rfl) (fun _ _ _ h => h) (Or.inl ⟨rfl, ?_⟩) (by assumption) ?_
          rotate_left
          · intro W hSw
            (try dsimp only at hSw)
            go_simp
            try with_reducible rfl
          try simp only [List.getElem_toArray, List.getElem_cons_zero, List.getElem_cons_succ, Act.put, List.setIfInBounds_toArray, List.set_cons_zero, List.set_cons_succ]
          refine wpAnyH_ready (rs := [11]) (by kernel_rfl) (by simp) (AllReadyH.cons rfl (fun K hK => ?_) AllReadyH.nil)
          go_simp
          refine hK.out _ _ (trivial) (fun hHeld => ?_)
          clear hK
          try simp only [List.getElem_toArray, List.getElem_cons_zero, List.getElem_cons_succ, Act.put, List.setIfInBounds_toArray, List.set_cons_zero, List.set_cons_succ]
          refine wpAnyH_done (by kernel_rfl) ?_ _
          (try dsimp only [NoPanic])
          go_wp2_with fail
          go_roundw
          case rel => exact ⟨k + 1, _, _, _, by omega, by go_num, hN2.out⟩
          case measure => simp [intOf]; omega
    · obtain rfl : k = bn := by omega
      have hfin := Lib.hid (hend.out _ _ _ _ _ hN)
      clear hN hbw
      go_wp2_with fail
      go_ret
      exact hfin.out
end Go.Proofs.Ytlgjlhgdpiipbaa
