import Derived.Test.YtlgjlhgdpiipbaaMac
/- Program. -/
namespace Go.Proofs.Ytlgjlhgdpiipbaa
open Go.RowKit
/-- Programs a page: the answer, the chip behind it. -/
def Chip.program (st : Chip) (n page : Int) (pg : List UInt8) : Int × Chip :=
  if st.asks n page ≠ 0 then (st.asks n page, st) else
  if (st.blk n.toNat).look.bad then (23, st) else
  if page < (st.blk n.toNat).look.next then (24, st) else
  let s1 := st.nextEv.2.setPage n.toNat page.toNat (mask pg st.nextEv.1.mask)
  let s2 := s1.setLook n.toNat { (s1.blk n.toNat).look with next := page + 1 }
  ((s2.ends st.nextEv.1.kind).1, (s2.ends st.nextEv.1.kind).2.2)
/-- No event has too long a mask. -/
def Chip.fits (st : Chip) : Prop := ∀ e ∈ st.evs, e.mask.length ≤ 288
theorem nextEv_mask (st : Chip) (h : st.fits) : st.nextEv.1.mask.length ≤ 288 := by
  unfold Chip.nextEv
  rcases he : st.evs with _ | ⟨e, r⟩
  · exact Nat.zero_le _
  · simp only
    split
    · exact h e (by rw [he]; exact List.mem_cons_self ..)
    · exact Nat.zero_le _
theorem nextEv_blk (st : Chip) : st.nextEv.2.blk = st.blk ∧ st.nextEv.2.bn = st.bn ∧ st.nextEv.2.pn = st.pn := by
  unfold Chip.nextEv
  rcases he : st.evs with _ | ⟨e, r⟩
  · exact ⟨rfl, rfl, rfl⟩
  · simp only
    split <;> exact ⟨rfl, rfl, rfl⟩
theorem Box.rdB {W : World} {b : Nat} {t : TypeId} {l : List UInt8} (h : Box W b t (cellsB l)) : RdB W (.slice (some ⟨b, 0, none⟩) l.length l.length) l :=
  ⟨_, _, rfl, Nat.le_refl _, fun j x hj => by
    obtain ⟨hlt, rfl⟩ := List.getElem?_eq_some_iff.1 hj
    exact ⟨b, 0, rfl, h.lt, by rw [Nat.zero_add]; exact h.get j _ (cellsB_get l j hlt)⟩⟩
section
variable {W : World} {Fm Fr : Nat → Prop} {c : Nat} {st : Chip} {L : Lay}
theorem ChipR.set_wear (h : ChipR W Fm Fr c st L) {i : Nat} (hi : i < st.bn) (x : Int) : ChipR (W.setCell ⟨L.k i, 1, none⟩ (.int .i64 x)) Fm Fr c (st.setLook i { (st.blk i).look with wear := x }) L := by
  refine h.upd_look i hi _ ?_ (grown_set1 W _ 1 _)
  have := (h.blk i hi).set 1 (.int .i64 x)
  have he : blkA L (st.setLook i { (st.blk i).look with wear := x }) i = (blkA L st i).setIfInBounds 1 (.int .i64 x) := by unfold blkA; rw [setLook_look, if_pos rfl]; rfl
  rw [he]; exact this
theorem ChipR.set_next (h : ChipR W Fm Fr c st L) {i : Nat} (hi : i < st.bn) (x : Int) : ChipR (W.setCell ⟨L.k i, 2, none⟩ (.int .i64 x)) Fm Fr c (st.setLook i { (st.blk i).look with next := x }) L := by
  refine h.upd_look i hi _ ?_ (grown_set1 W _ 2 _)
  have := (h.blk i hi).set 2 (.int .i64 x)
  have he : blkA L (st.setLook i { (st.blk i).look with next := x }) i = (blkA L st i).setIfInBounds 2 (.int .i64 x) := by unfold blkA; rw [setLook_look, if_pos rfl]; rfl
  rw [he]; exact this
theorem ChipR.set_bad (h : ChipR W Fm Fr c st L) {i : Nat} (hi : i < st.bn) (x : Bool) : ChipR (W.setCell ⟨L.k i, 3, none⟩ (.bool x)) Fm Fr c (st.setLook i { (st.blk i).look with bad := x }) L := by
  refine h.upd_look i hi _ ?_ (grown_set1 W _ 3 _)
  have := (h.blk i hi).set 3 (.bool x)
  have he : blkA L (st.setLook i { (st.blk i).look with bad := x }) i = (blkA L st i).setIfInBounds 3 (.bool x) := by unfold blkA; rw [setLook_look, if_pos rfl]; rfl
  rw [he]; exact this
end
theorem ChipR.grown_out {W W' : World} {Fm Fr : Nat → Prop} {c : Nat} {st : Chip} {L : Lay} (h : ChipR W Fm Fr c st L) {b : Nat} (hg : W.grownBy W' (some b)) (hb : ¬ Fm b ∧ ¬ Fr b) : ChipR W' Fm Fr c st L :=
  h.same ⟨fun x hx => hg.block x (by rcases hx with hx | hx; exact h.ltm x hx; exact h.ltr x hx) (fun e => by cases e; rcases hx with hx | hx; exact hb.1 hx; exact hb.2 hx), hg.size⟩
theorem Kept.grown_new {F : Nat → Prop} {A B C : World} (h : Kept F A B) {b : Nat} (hg : B.grownBy C (some b)) (hb : A.heap.size ≤ b) : Kept F A C :=
  h.trans (Kept.of_grown (F := fun x => x = b) hg rfl) (fun x hx => .inr (by subst hx; exact hb))
/-- What a changing call leaves: a chip, in old places or new ones. -/
def OpRes (Fm Fr : Nat → Prop) (c : Nat) (r : Int × Chip) (w : World) (e : Ending) (w' : World) : Prop :=
  ∃ Fm' L', e = .returned (.int .i64 r.1) ∧ ChipR w' Fm' Fr c r.2 L' ∧ Kept Fm w w' ∧ ∀ x, Fm' x → Fm x ∨ w.heap.size ≤ x
set_option maxRecDepth 100000 in
set_option maxHeartbeats 4000000 in
theorem program_any {Fm Fr : Nat → Prop} {c : Nat} {st : Chip} {L : Lay} {w : World} (h : ChipR w Fm Fr c st L) (hf : st.fits) (ho : st.ops < 1000000) (n page : Int) (pg : List UInt8) (hp : pg.length = 288) :
    Calls Try.prog 27 #[.pointer (some ⟨c, 0, none⟩), .int .i64 n, .int .i64 page, pgV pg] w (OpRes Fm Fr c (st.program n page pg) w) := by
  have hb := (Below.refl w.heap.size w).alloc (Nat.le_refl _) (.cells (cellsB pg) 48)
  have h0 := h.below hb
  have hk0 : Kept Fm w _ := Kept.of_below hb
  have bx := Box.new w 48 (cellsB pg)
  have hout := h.new (Nat.le_refl w.heap.size)
  obtain ⟨W0, hW0⟩ : ∃ W0, w.alloc (.cells (cellsB pg) 48) = W0 := ⟨_, rfl⟩
  rw [hW0] at h0 hk0 bx
  have ha := Lib.hid (asks_any h0 n page)
  unfold pgV
  by_cases hz : st.asks n page = 0
  case neg =>
    have hl : st.program n page pg = (st.asks n page, st) := by unfold Chip.program; rw [if_pos hz]
    rw [hl]
    obtain ⟨a, haa⟩ : ∃ a, st.asks n page = a := ⟨_, rfl⟩
    rw [haa] at ha hz ⊢
    have hn : (a != 0) = true := by simpa using hz
    replace h0 := Lib.hid h0
    replace hk0 := Lib.hid hk0
    clear h hl hz bx hb haa
    go_enter Try.func27, Try.ntmps27
    go_wp2_with (go_at_call 44; (with_reducible refine ha.out.mono ?_); rintro e w' ⟨rfl, hw⟩; obtain rfl := hw.symm)
    go_ret
    exact ⟨Fm, L, rfl, h0.out, hk0.out, fun x hx => .inl hx⟩
  obtain ⟨_, _, i, j, rfl, hi, rfl, hj⟩ := Chip.asks_ok hz
  rw [hz] at ha
  have c2 := h0.c2
  have r0 := h0.r hi
  have b3 := h0.b3 hi
  have b2 := h0.b2 hi
  have hI : (i : Int) < (st.bn : Int) := by omega
  have hI0 : (0 : Int) ≤ (i : Int) := by omega
  have hJ : (j : Int) < (st.pn : Int) := by omega
  have hJ0 : (0 : Int) ≤ (j : Int) := by omega
  have hpr : st.program (i : Int) (j : Int) pg = if (st.blk i).look.bad then (23, st) else if (j : Int) < (st.blk i).look.next then (24, st) else
      (((((st.nextEv.2.setPage i j (mask pg st.nextEv.1.mask)).setLook i { ((st.nextEv.2.setPage i j (mask pg st.nextEv.1.mask)).blk i).look with next := (j : Int) + 1 }).ends st.nextEv.1.kind).1, (((st.nextEv.2.setPage i j (mask pg st.nextEv.1.mask)).setLook i { ((st.nextEv.2.setPage i j (mask pg st.nextEv.1.mask)).blk i).look with next := (j : Int) + 1 }).ends st.nextEv.1.kind).2.2)) := by
    unfold Chip.program
    rw [if_neg (by simpa using hz)]
    rfl
  obtain ⟨R, hR⟩ : ∃ R, st.program (i : Int) (j : Int) pg = R := ⟨_, rfl⟩
  rw [hR] at hpr ⊢
  clear hR hz
  rcases hbad : (st.blk i).look.bad with _ | _
  case true =>
    rw [hbad] at b3 hpr
    rw [if_pos rfl] at hpr
    subst hpr
    replace h0 := Lib.hid h0
    replace hk0 := Lib.hid hk0
    clear h bx hb hbad b2
    go_enter Try.func27, Try.ntmps27
    go_wp2_with (go_at_call 44; (with_reducible refine ha.out.mono ?_); rintro e w' ⟨rfl, hw⟩; obtain rfl := hw.symm)
    go_ret
    exact ⟨Fm, L, rfl, h0.out, hk0.out, fun x hx => .inl hx⟩
  rw [hbad] at b3 hpr
  rw [if_neg (by simp)] at hpr
  by_cases hlt : (j : Int) < (st.blk i).look.next
  case pos =>
    rw [if_pos hlt] at hpr
    subst hpr
    replace h0 := Lib.hid h0
    replace hk0 := Lib.hid hk0
    clear h bx hb hbad
    go_enter Try.func27, Try.ntmps27
    go_wp2_with (go_at_call 44; (with_reducible refine ha.out.mono ?_); rintro e w' ⟨rfl, hw⟩; obtain rfl := hw.symm)
    go_ret
    exact ⟨Fm, L, rfl, h0.out, hk0.out, fun x hx => .inl hx⟩
  rw [if_neg hlt] at hpr
  have hnx := Lib.hid (next_any h0 ho)
  have hmk := nextEv_mask st hf
  obtain ⟨hbl, hbn, hpn⟩ := nextEv_blk st
  have hbnd := h.bnd
  obtain ⟨N, hN⟩ : ∃ N, st.nextEv = N := ⟨_, rfl⟩
  rw [hN] at hnx hmk hbl hbn hpn hpr
  clear hN
  obtain ⟨⟨ea, ek, em⟩, s0⟩ := N
  dsimp only at hmk hbl hbn hpn hpr
  replace hpr := Lib.hid hpr
  have hws := Nat.le_of_lt bx.lt
  replace hk0 := Lib.hid hk0
  clear h hb hbad h0 hf
  go_enter Try.func27, Try.ntmps27
  go_wp2_with (go_at_call 44; (with_reducible refine ha.out.mono ?_); rintro e w' ⟨rfl, hw⟩; obtain rfl := hw.symm)
  clear hW0
  refine hnx.out.mono ?_
  rintro e w1 ⟨v, ev', rfl, ⟨mv, rfl, hmv⟩, h1, hk1⟩
  clear hnx c2 r0 b3 b2 ha hlt
  dsimp only at hmv h1
  have hk1' := hk0.out.trans hk1 (fun _ hb => .inl hb)
  have bx1 := bx.kept hk1 hout.1
  clear hk1 hk0 bx
  obtain ⟨ma, mc, hme⟩ := (hmv w1 (Same.refl _ _)).len
  obtain ⟨ml, hml⟩ : ∃ ml, em.length = ml := ⟨_, rfl⟩
  rw [hml] at hme
  subst hme
  have hws1 := bx1.lt
  have hba := (Below.refl w1.heap.size w1).alloc (Nat.le_refl _) (.cells #[.int .i64 ea, .int .i64 ek, .slice ma ml mc] 67)
  have h2 := h1.below hba
  have hk2 := hk1'.then hba
  have bx2 := bx1.below hba
  have ebx := Box.new w1 67 #[.int .i64 ea, .int .i64 ek, .slice ma ml mc]
  have hsm : Same Fr w1 (w1.alloc (.cells #[.int .i64 ea, .int .i64 ek, .slice ma ml mc] 67)) := ⟨fun x hx => hba.block x (h1.ltr x hx), hba.size⟩
  obtain ⟨W2, hW2⟩ : ∃ W2, w1.alloc (.cells #[.int .i64 ea, .int .i64 ek, .slice ma ml mc] 67) = W2 := ⟨_, rfl⟩
  obtain ⟨E, hE⟩ : ∃ E, w1.heap.size = E := ⟨_, rfl⟩
  rw [hW2] at h2 hk2 bx2 ebx hsm
  rw [hE] at ebx hws1
  have hld := bx2.loadPg hp
  have hof := Lib.hid (of_any pg W2 hp)
  have hEm : ¬ Fm E := by rw [← hE]; exact (h1.new (Nat.le_refl _)).1
  replace h2 := Lib.hid h2
  replace hk2 := Lib.hid hk2
  replace ebx := Lib.hid ebx
  replace hsm := Lib.hid hsm
  clear h1 hk1' bx1 hba bx2
  go_wp2_with (refine wpList_load_var rfl 48 _ rfl _ rfl _ hld ?_)
  refine hof.out.mono ?_
  rintro e w3 ⟨b, rfl, hbW, hbx, hb3⟩
  have hbF := h2.out.new hbW
  have h3 := h2.out.below hb3
  have hk3 := hk2.out.then hb3
  have ebx3 := ebx.out.below hb3
  have hbw : w.heap.size ≤ b := Nat.le_trans hk2.out.size hbW
  have hEb : E ≠ b := by have := ebx.out.lt; omega
  have hsm3 : Same Fr w1 w3 := hsm.out.trans ⟨fun x hx => hb3.block x (h2.out.ltr x hx), hb3.size⟩
  have hmr := hmv _ hsm3
  clear h2 hk2 ebx hsm hb3 hof hld hmv hbW
  have hu3 := hbx.rdB
  rw [hp] at hu3
  have hm47 := Lib.hid (mask_any pg em _ _ w3.drew (show RdB w3.drew _ pg from hu3) (show RdB w3.drew (.slice ma ml mc) em from hmr) (by intro e; rw [e] at hp; simp at hp) (by omega) (by omega))
  have hlm := mask_len pg em
  rw [hp] at hlm
  obtain ⟨mk, hmk'⟩ : ∃ mk, mask pg em = mk := ⟨_, rfl⟩
  rw [hmk'] at hm47 hlm hpr
  clear hmk' hmr hu3 hmk
  unfold OwnRes at hm47
  rw [hlm] at hm47
  have hS := Lib.hid (show ∀ W : World, Below w3.heap.size w3 W → (fun W => W.cell? ⟨E, 2, none⟩ = some (.slice ma ml mc)) W from fun W hW => (ebx3.below hW).get 2 _ rfl)
  replace h3 := Lib.hid h3
  replace hk3 := Lib.hid hk3
  replace ebx3 := Lib.hid ebx3
  replace hbx := Lib.hid hbx
  go_upto_region 11 with fail
  refine wp_region_noPanic ?_
  refine wp_region_held_drew (S := fun W => W.cell? ⟨E, 2, none⟩ = some (.slice ma ml mc)) (by kernel_rfl) (hS.out _ ((Below.refl w3.heap.size w3).drew)) (fun hHeld => ?_)
  refine wpAnyH_take (i := 0) (v := ?_) rfl (by kernel_rfl) (by kernel_rfl) (by kernel_rfl) (fun _ _ _ h => h) (Or.inl ⟨rfl, ?_⟩) (by assumption) ?_
  rotate_left
  · intro W hSw
    (try dsimp only at hSw)
    go_simp
    try with_reducible rfl
  try simp only [List.getElem_toArray, List.getElem_cons_zero, List.getElem_cons_succ, Act.put, List.setIfInBounds_toArray, List.set_cons_zero, List.set_cons_succ]
  refine wpAnyH_take (i := 1) (v := ?_) rfl (by kernel_rfl) (by kernel_rfl) (by kernel_rfl) (fun _ _ _ h => h) (Or.inl ⟨rfl, ?_⟩) (by assumption) ?_
  rotate_left
  · intro W hSw
    (try dsimp only at hSw)
    go_simp
    try with_reducible rfl
  try simp only [List.getElem_toArray, List.getElem_cons_zero, List.getElem_cons_succ, Act.put, List.setIfInBounds_toArray, List.set_cons_zero, List.set_cons_succ]
  refine wpAnyH_take (i := 2) (v := ?_) rfl (by kernel_rfl) (by kernel_rfl) (by kernel_rfl) (fun _ _ _ h => h) (Or.inl ⟨rfl, ?_⟩) (by assumption) ?_
  rotate_left
  · intro W hSw
    (try dsimp only at hSw)
    go_simp
    try with_reducible rfl
  try simp only [List.getElem_toArray, List.getElem_cons_zero, List.getElem_cons_succ, Act.put, List.setIfInBounds_toArray, List.set_cons_zero, List.set_cons_succ]
  refine wpAnyH_take (i := 3) (v := ?_) rfl (by kernel_rfl) (by kernel_rfl) (by kernel_rfl) (fun _ _ _ h => h) (Or.inl ⟨rfl, ?_⟩) (by assumption) ?_
  rotate_left
  · intro W hSw
    (try dsimp only at hSw)
    go_simp
    try with_reducible rfl
  try simp only [List.getElem_toArray, List.getElem_cons_zero, List.getElem_cons_succ, Act.put, List.setIfInBounds_toArray, List.set_cons_zero, List.set_cons_succ]
  refine wpAnyH_take (i := 4) (v := ?_) rfl (by kernel_rfl) (by kernel_rfl) (by kernel_rfl) (fun _ _ _ h => h) (Or.inl ⟨rfl, ?_⟩) (by assumption) ?_
  rotate_left
  · intro W hSw
    (try dsimp only at hSw)
    go_simp
    try with_reducible rfl
  try simp only [List.getElem_toArray, List.getElem_cons_zero, List.getElem_cons_succ, Act.put, List.setIfInBounds_toArray, List.set_cons_zero, List.set_cons_succ]
  refine wpAnyH_take (i := 5) (v := ?_) rfl (by kernel_rfl) (by kernel_rfl) (by kernel_rfl) (fun _ _ _ h => h) (Or.inl ⟨rfl, ?_⟩) (by assumption) ?_
  rotate_left
  · intro W hSw
    (try dsimp only at hSw)
    go_simp
    try with_reducible rfl
  try simp only [List.getElem_toArray, List.getElem_cons_zero, List.getElem_cons_succ, Act.put, List.setIfInBounds_toArray, List.set_cons_zero, List.set_cons_succ]
  refine wpAnyH_take (i := 6) (v := ?_) rfl (by kernel_rfl) (by kernel_rfl) (by kernel_rfl) (fun _ _ _ h => h) (Or.inl ⟨rfl, ?_⟩) (by assumption) ?_
  rotate_left
  · intro W hSw
    (try dsimp only at hSw)
    go_simp
    try with_reducible rfl
  try simp only [List.getElem_toArray, List.getElem_cons_zero, List.getElem_cons_succ, Act.put, List.setIfInBounds_toArray, List.set_cons_zero, List.set_cons_succ]
  refine wpAnyH_take (i := 7) (v := ?_) rfl (by kernel_rfl) (by kernel_rfl) (by kernel_rfl) (fun _ _ _ h => h) (Or.inl ⟨rfl, ?_⟩) (by assumption) ?_
  rotate_left
  · intro W hSw
    (try dsimp only at hSw)
    go_simp
    try with_reducible rfl
  try simp only [List.getElem_toArray, List.getElem_cons_zero, List.getElem_cons_succ, Act.put, List.setIfInBounds_toArray, List.set_cons_zero, List.set_cons_succ]
  refine wpAnyH_ready (rs := [8]) (by kernel_rfl) (by simp) (AllReadyH.cons rfl (fun K hK => ?_) AllReadyH.nil)
  go_simp
  (with_reducible refine hm47.out.mono ?_)
  rintro e w4 ⟨g, gc, rfl, hgw, hg, hb4⟩
  have hb4' : Below w3.heap.size w3 w4 := ⟨hb4.os, hb4.tape, hb4.output, hb4.size, hb4.block⟩
  obtain ⟨hcp, hbx5, hgr5⟩ := (hbx.out.below hb4').copy 0 mk (by rw [hlm, hp]; omega) ⟨g, 0, none⟩ 288 288 288 gc (by rw [hlm]; rfl) (fun x hx => by
    have hadd : (⟨g, 0, none⟩ : Addr).add x = ⟨g, x, none⟩ := by unfold Addr.add; split <;> simp_all
    rw [hadd, hg.cell x hx]) 3
  rw [hlm] at hcp
  rw [splice_all _ _ (by rw [hlm, hp])] at hcp hbx5 hgr5
  replace hcp := Lib.hid hcp
  refine hK.out _ _ (hS.out _ hb4') (fun hHeld => ?_)
  clear hK
  try simp only [List.getElem_toArray, List.getElem_cons_zero, List.getElem_cons_succ, Act.put, List.setIfInBounds_toArray, List.set_cons_zero, List.set_cons_succ]
  refine wpAnyH_ready (rs := [9]) (by kernel_rfl) (by simp) (AllReadyH.cons rfl (fun K hK => ?_) AllReadyH.nil)
  refine step_copy_run rfl (.tmp 49) (.tmp 55) 65 65 rfl _ _ rfl rfl _ _ hcp.out ?_
  refine hK.out _ _ ?_ (fun hHeld => ?_)
  · show World.cell? _ _ = _
    exact ((ebx3.out.below hb4').grown hgr5 (by simpa using hEb)).get 2 _ rfl
  clear hK
  try simp only [List.getElem_toArray, List.getElem_cons_zero, List.getElem_cons_succ, Act.put, List.setIfInBounds_toArray, List.set_cons_zero, List.set_cons_succ]
  refine wpAnyH_done (by kernel_rfl) ?_ _
  (try dsimp only [NoPanic])
  have h5 := (h3.out.below hb4').grown_out hgr5 hbF
  have hk5 := (hk3.out.then hb4').grown_new hgr5 hbw
  have ebx5 := (ebx3.out.below hb4').grown hgr5 (by simpa using hEb)
  obtain ⟨W5, hW5⟩ : ∃ W5, w4.setRow b (cellsB mk) = W5 := ⟨_, rfl⟩
  rw [hW5] at hbx5 h5 hk5 ebx5 ⊢
  clear hW5 hgr5 hcp hb4 hb4' hg hgw h3 hk3 ebx3 hbx hS hm47
  have hi0 : i < s0.bn := by rw [hbn]; exact hi
  have hj0 : j < s0.pn := by rw [hpn]; exact hj
  have k0 := h5.b0 hi0
  have k1 := h5.pp hi0 hj0
  have kf := (h5.prow i hi0).frozen j
  rw [hpn] at k0
  have hki := h5.fk i hi0
  have hpi := h5.fp i hi0
  dsimp only at k0 k1 kf hki hpi
  have h6 := h5.upd_page i j hi0 hj0 mk hlm b hbx5 hbF.1 hbF.2
  have hk6 := hk5.set_in (L.p i) j (ptr b) hpi
  have ebx6 := ebx5.far ⟨L.p i, j, none⟩ (ptr b) (by show L.p i ≠ E; intro e; rw [e] at hpi; exact hEm hpi)
  unfold ptr at h6 hk6 ebx6
  dsimp only at h6
  obtain ⟨W6, hW6⟩ : ∃ W6, W5.setCell ⟨L.p i, j, none⟩ (.pointer (some ⟨b, 0, none⟩)) = W6 := ⟨_, rfl⟩
  rw [hW6] at h6 hk6 ebx6
  have n2 := h6.b2 (i := i) hi0
  have nf := (h6.blk i hi0).frozen 2
  have h7 := h6.set_next (i := i) hi0 ((j : Int) + 1)
  have hk7 := hk6.set_in (L.k i) 2 (.int .i64 ((j : Int) + 1)) hki
  have ebx7 := ebx6.far ⟨L.k i, 2, none⟩ (.int .i64 ((j : Int) + 1)) (by show L.k i ≠ E; intro e; rw [e] at hki; exact hEm hki)
  have hwr := show IntKind.i64.wrap ((j : Int) + 1) = (j : Int) + 1 by rw [IntKind.wrap_i64]; omega
  obtain ⟨W7, hW7⟩ : ∃ W7, W6.setCell ⟨L.k i, 2, none⟩ (.int .i64 ((j : Int) + 1)) = W7 := ⟨_, rfl⟩
  replace n2 : W6.cell? ⟨L.k i, 2, none⟩ = _ := n2
  replace nf : W6.frozen? ⟨L.k i, 2, none⟩ = false := nf
  replace h7 : ChipR (W6.setCell ⟨L.k i, 2, none⟩ (.int .i64 ((j : Int) + 1))) _ Fr c _ _ := h7
  rw [hW7] at h7 hk7 ebx7
  have e0 := ebx7.get 0 _ rfl
  have e1 := ebx7.get 1 _ rfl
  have e2 := ebx7.get 2 _ rfl
  have hen := Lib.hid (ends_any h7 ea ek (.slice ma ml mc))
  replace h7 := Lib.hid h7
  replace hk7 := Lib.hid hk7
  clear h5 hk5 ebx5 h6 hk6 ebx6 hbx5 ebx7
  go_wp2_with fail
  refine hen.out.mono ?_
  rintro e w8 ⟨rfl, h8, hk8⟩
  replace h8 := Lib.hid h8
  replace hk8 := Lib.hid hk8
  go_wp2_with fail
  go_ret
  rw [hpr.out]
  exact ⟨_, _, rfl, h8.out, hk7.out.trans hk8.out (fun x hx => by rcases hx with hx | rfl; exact .inl hx; exact .inr hbw), fun x hx => by rcases hx with hx | rfl; exact .inl hx; exact .inr hbw⟩
end Go.Proofs.Ytlgjlhgdpiipbaa
/- Erase. -/
namespace Go.Proofs.Ytlgjlhgdpiipbaa
open Go.RowKit
def Chip.wiped (st : Chip) (n : Nat) : Nat → List UInt8 := fun x => if x < st.pn then rep 288 255 else (st.blk n).pages x
def Chip.worn (st : Chip) (i : Nat) : Chip := st.setLook i { (st.blk i).look with wear := (st.blk i).look.wear + 1 }
/-- A block whose erase went wrong. -/
def Chip.torn (st : Chip) (i : Nat) (m : List UInt8) : Chip :=
  let s2 := st.setPages i (st.laid i (mask (allOf (st.blk i).pages st.pn) m))
  s2.setLook i { (s2.blk i).look with next := st.pn }
def Chip.judged (st : Chip) (i : Nat) (kind : Int) : Int × Chip :=
  ((st.ends kind).1, (st.ends kind).2.2.setLook i { ((st.ends kind).2.2.blk i).look with bad := (st.ends kind).2.1 })
def Chip.cleared (st : Chip) (i : Nat) : Chip :=
  let s2 := st.setPages i (st.wiped i)
  s2.setLook i { (s2.blk i).look with next := 0 }
/-- Erases a block: the answer, the chip behind it. -/
def Chip.erase (st : Chip) (n : Int) : Int × Chip :=
  if st.asks n 0 ≠ 0 then (st.asks n 0, st) else
  if (st.blk n.toNat).look.bad then (23, st) else
  if st.nextEv.1.kind ≠ 0 then ((st.nextEv.2.worn n.toNat).torn n.toNat st.nextEv.1.mask).judged n.toNat st.nextEv.1.kind
  else (0, (st.nextEv.2.worn n.toNat).cleared n.toNat)
theorem ends_bn (st : Chip) (kind : Int) : (st.ends kind).2.2.bn = st.bn := by
  unfold Chip.ends
  split
  · rfl
  · split <;> rfl
theorem ends_pn (st : Chip) (kind : Int) : (st.ends kind).2.2.pn = st.pn := by
  unfold Chip.ends
  split
  · rfl
  · split <;> rfl
theorem cell_far (W : World) (b j : Nat) (v : Value) {B : Nat} (h : B ≠ b) (i : Nat) : (W.setCell ⟨b, j, none⟩ v).cell? ⟨B, i, none⟩ = W.cell? ⟨B, i, none⟩ :=
  World.cell?_of_block (w := W) (w' := W.setCell ⟨b, j, none⟩ v) (a := ⟨B, i, none⟩) (Below.heap_setCell W ⟨b, j, none⟩ v B h)
theorem wiped_step (f : Nat → List UInt8) (j : Nat) : (fun x => if x = j then rep 288 255 else (fun x => if x < j then rep 288 255 else f x) x) = fun x => if x < j + 1 then rep 288 255 else f x := by
  funext x
  by_cases e : x = j
  · subst e; simp
  · simp only [if_neg e]
    by_cases e2 : x < j
    · rw [if_pos e2, if_pos (by omega)]
    · rw [if_neg e2, if_neg (by omega)]
set_option maxRecDepth 100000 in
set_option maxHeartbeats 8000000 in
theorem erase_any {Fm Fr : Nat → Prop} {c : Nat} {st : Chip} {L : Lay} {w : World} (h : ChipR w Fm Fr c st L) (hf : st.fits) (ho : st.ops < 1000000) (hwe : ∀ i, i < st.bn → 0 ≤ (st.blk i).look.wear ∧ (st.blk i).look.wear < 1000000) (n : Int) :
    Calls Try.prog 26 #[.pointer (some ⟨c, 0, none⟩), .int .i64 n] w (OpRes Fm Fr c (st.erase n) w) := by
  have hout := h.new (Nat.le_refl w.heap.size)
  have ha := Lib.hid (asks_any h n 0)
  by_cases hz : st.asks n 0 = 0
  case neg =>
    have hl : st.erase n = (st.asks n 0, st) := by unfold Chip.erase; rw [if_pos hz]
    rw [hl]
    obtain ⟨a, haa⟩ : ∃ a, st.asks n 0 = a := ⟨_, rfl⟩
    rw [haa] at ha hz ⊢
    have hn : (a != 0) = true := by simpa using hz
    replace h := Lib.hid h
    clear hl hz haa
    go_enter Try.func26, Try.ntmps26
    go_wp2_with (go_at_call 44; (with_reducible refine ha.out.mono ?_); rintro e w' ⟨rfl, hw⟩; obtain rfl := hw.symm)
    go_ret
    exact ⟨Fm, L, rfl, h.out, Kept.refl _ _, fun x hx => .inl hx⟩
  obtain ⟨i, rfl, hi⟩ := Chip.there_nat (Chip.asks_ok hz).2.1
  rw [hz] at ha
  have c2 := h.c2
  have r0 := h.r hi
  have b3 := h.b3 hi
  have hI : (i : Int) < (st.bn : Int) := by omega
  have hI0 : (0 : Int) ≤ (i : Int) := by omega
  have hpr : st.erase (i : Int) = if (st.blk i).look.bad then (23, st) else
      if st.nextEv.1.kind ≠ 0 then ((st.nextEv.2.worn i).torn i st.nextEv.1.mask).judged i st.nextEv.1.kind else (0, (st.nextEv.2.worn i).cleared i) := by
    unfold Chip.erase
    rw [if_neg (by simpa using hz)]
    rfl
  obtain ⟨R, hR⟩ : ∃ R, st.erase (i : Int) = R := ⟨_, rfl⟩
  rw [hR] at hpr ⊢
  clear hR hz
  rcases hbad : (st.blk i).look.bad with _ | _
  case true =>
    rw [hbad] at b3 hpr
    rw [if_pos rfl] at hpr
    subst hpr
    replace h := Lib.hid h
    clear hbad
    go_enter Try.func26, Try.ntmps26
    go_wp2_with (go_at_call 44; (with_reducible refine ha.out.mono ?_); rintro e w' ⟨rfl, hw⟩; obtain rfl := hw.symm)
    go_ret
    exact ⟨Fm, L, rfl, h.out, Kept.refl _ _, fun x hx => .inl hx⟩
  rw [hbad] at b3 hpr
  rw [if_neg (by simp)] at hpr
  have hnx := Lib.hid (next_any h ho)
  have hmk := nextEv_mask st hf
  obtain ⟨hbl, hbn, hpn⟩ := nextEv_blk st
  have hbnd := h.bnd
  have hwi := hwe i hi
  obtain ⟨N, hN⟩ : ∃ N, st.nextEv = N := ⟨_, rfl⟩
  rw [hN] at hnx hmk hbl hbn hpn hpr
  clear hN
  obtain ⟨⟨ea, ek, em⟩, s0⟩ := N
  dsimp only at hmk hbl hbn hpn hpr
  replace hpr := Lib.hid hpr
  clear h hbad hf hwe
  go_enter Try.func26, Try.ntmps26
  go_wp2_with (go_at_call 44; (with_reducible refine ha.out.mono ?_); rintro e w' ⟨rfl, hw⟩; obtain rfl := hw.symm)
  refine hnx.out.mono ?_
  rintro e w1 ⟨v, ev', rfl, ⟨mv, rfl, hmv⟩, h1, hk1⟩
  clear hnx c2 r0 b3 ha
  dsimp only at hmv h1
  obtain ⟨ma, mc, hme⟩ := (hmv w1 (Same.refl _ _)).len
  obtain ⟨ml, hml⟩ : ∃ ml, em.length = ml := ⟨_, rfl⟩
  rw [hml] at hme
  subst hme
  have hba := (Below.refl w1.heap.size w1).alloc (Nat.le_refl _) (.cells #[.int .i64 ea, .int .i64 ek, .slice ma ml mc] 67)
  have h2 := h1.below hba
  have hk2 := hk1.then hba
  have ebx := Box.new w1 67 #[.int .i64 ea, .int .i64 ek, .slice ma ml mc]
  have hsm : Same Fr w1 (w1.alloc (.cells #[.int .i64 ea, .int .i64 ek, .slice ma ml mc] 67)) := ⟨fun x hx => hba.block x (h1.ltr x hx), hba.size⟩
  obtain ⟨W2, hW2⟩ : ∃ W2, w1.alloc (.cells #[.int .i64 ea, .int .i64 ek, .slice ma ml mc] 67) = W2 := ⟨_, rfl⟩
  obtain ⟨E, hE⟩ : ∃ E, w1.heap.size = E := ⟨_, rfl⟩
  rw [hW2] at h2 hk2 ebx hsm
  rw [hE] at ebx
  have hEo := h1.new (Nat.le_refl _)
  rw [hE] at hEo
  clear h1 hk1 hba
  have hi0 : i < s0.bn := by rw [hbn]; exact hi
  have hbi : s0.blk i = st.blk i := by rw [hbl]
  -- the wear
  have q1 := h2.b1 hi0
  have qf := (h2.blk i hi0).frozen 1
  dsimp only at q1 qf
  have hki := h2.fk i hi0
  dsimp only at hki
  have h3 := h2.set_wear hi0 ((s0.blk i).look.wear + 1)
  replace h3 : ChipR _ Fm Fr c (s0.worn i) _ := h3
  dsimp only at h3
  have hk3 := hk2.set_in (L.k i) 1 (.int .i64 ((s0.blk i).look.wear + 1)) hki
  have ebx3 := ebx.far ⟨L.k i, 1, none⟩ (.int .i64 ((s0.blk i).look.wear + 1)) (by show L.k i ≠ E; intro e; rw [e] at hki; exact hEo.1 hki)
  have hsm3 := hsm.trans (h2.same_set (L.k i) 1 (.int .i64 ((s0.blk i).look.wear + 1)) hki)
  have hwr := show IntKind.i64.wrap ((s0.blk i).look.wear + 1) = (s0.blk i).look.wear + 1 by rw [IntKind.wrap_i64, hbi]; omega
  have hwb : 0 ≤ (s0.blk i).look.wear ∧ (s0.blk i).look.wear < 1000000 := by rw [hbi]; exact hwi
  clear hbi
  obtain ⟨wv, hwv⟩ : ∃ wv, (s0.blk i).look.wear = wv := ⟨_, rfl⟩
  rw [hwv] at q1 h3 hk3 ebx3 hsm3 hwr hwb
  clear hwv hbl
  obtain ⟨W3, hW3⟩ : ∃ W3, W2.setCell ⟨L.k i, 1, none⟩ (.int .i64 (wv + 1)) = W3 := ⟨_, rfl⟩
  rw [hW3] at h3 hk3 ebx3 hsm3
  have s1bn : (s0.worn i).bn = st.bn := hbn
  have s1pn : (s0.worn i).pn = st.pn := hpn
  obtain ⟨s1, hs1⟩ : ∃ s1, s0.worn i = s1 := ⟨_, rfl⟩
  rw [hs1] at h3 hpr s1bn s1pn
  have hi1 : i < s1.bn := by rw [s1bn]; exact hi
  have e1 := ebx3.get 1 _ rfl
  clear h2 hk2 ebx hsm hwi hs1
  replace hwb := hwb
  by_cases hek : ek = 0
  case pos =>
    have ze : (ek != 0) = false := by simpa using hek
    replace hpr : R = (0, s1.cleared i) := by have := hpr.out; rw [if_neg (by simpa using hek)] at this; exact this
    replace hpr := Lib.hid hpr
    have b0 := h3.b0 hi1
    dsimp only at b0
    have h0 : ChipR W3 Fm Fr c (s1.setPages i (fun y => if y < 0 then rep 288 255 else (s1.blk i).pages y)) { L with ev := ev' } := by
      have : (fun y => if y < 0 then rep 288 255 else (s1.blk i).pages y) = (s1.blk i).pages := by funext y; simp
      rw [this, setPages_self]; exact h3
    have hps : s1.pn ≤ 32 := by rw [s1pn]; exact hbnd.2.2.2
    replace h0 := Lib.hid h0
    replace hk3 := Lib.hid hk3
    replace s1pn := Lib.hid s1pn
    replace s1bn := Lib.hid s1bn
    clear hek hmv hsm3 ebx3 h3
    go_wp2_with fail
    clear hW3 hW2 q1 qf hwr e1
    go_loopw [76] (fun j wr => ∃ x : Nat, x ≤ s1.pn ∧ j = .int .i64 x ∧ ∃ Fm' L', ChipR wr Fm' Fr c (s1.setPages i (fun y => if y < x then rep 288 255 else (s1.blk i).pages y)) L' ∧ Kept Fm w wr ∧ (∀ y, Fm' y → Fm y ∨ w.heap.size ≤ y) ∧ L'.k i = L.k i ∧ L'.p i = L.p i) (fun j _ => s1.pn - (intOf j).toNat)
    case atStart => exact ⟨0, by omega, rfl, Fm, _, h0.out, hk3.out, fun y hy => .inl hy, rfl, rfl⟩
    case round =>
      clear h0 hk3 b0
      obtain ⟨x, hx, rfl, Fm', L', hc, hk, hFm, hkL, hpL⟩ := hrel
      have hix : i < (s1.setPages i (fun y => if y < x then rep 288 255 else (s1.blk i).pages y)).bn := hi1
      by_cases hlt : x < s1.pn
      · have hpx : x < (s1.setPages i (fun y => if y < x then rep 288 255 else (s1.blk i).pages y)).pn := hlt
        have b0 := hc.b0 hix
        rw [hkL, hpL] at b0
        replace b0 : wr.cell? ⟨L.k i, 0, none⟩ = some (.slice (some ⟨L.p i, 0, none⟩) s1.pn (L'.parr i).size) := b0
        have hkp : L.k i ≠ L.p i := by rw [← hkL, ← hpL]; exact (hc.blk i hix).ne (hc.prow i hix) (by decide)
        have hkl : L.k i < wr.heap.size := by rw [← hkL]; exact (hc.blk i hix).lt
        have hI0' : (0 : Int) ≤ (x : Int) := by omega
        have hI1' : (x : Int) < (s1.pn : Int) := by omega
        have hS := Lib.hid (show ∀ W : World, Below wr.heap.size wr W → (fun W => W.cell? ⟨L.k i, 0, none⟩ = some (.slice (some ⟨L.p i, 0, none⟩) s1.pn (L'.parr i).size)) W from fun W hW => (hW.cell (p := ⟨L.k i, 0, none⟩) hkl).trans b0)
        replace hc := Lib.hid hc
        replace hk := Lib.hid hk
        replace hFm := Lib.hid hFm
        go_upto_region 18 with fail
        refine wp_region_noPanic ?_
        refine wp_region_held_drew (S := fun W => W.cell? ⟨L.k i, 0, none⟩ = some (.slice (some ⟨L.p i, 0, none⟩) s1.pn (L'.parr i).size)) (by kernel_rfl) (hS.out _ ((Below.refl wr.heap.size wr).drew)) (fun hHeld => ?_)
        refine wpAnyH_take (i := 0) (v := ?_) rfl (by kernel_rfl) (by kernel_rfl) (by kernel_rfl) (fun _ _ _ h => h) (Or.inl ⟨rfl, ?_⟩) (by assumption) ?_
        rotate_left
        · intro W hSw
          (try dsimp only at hSw)
          go_simp
          try with_reducible rfl
        try simp only [List.getElem_toArray, List.getElem_cons_zero, List.getElem_cons_succ, Act.put, List.setIfInBounds_toArray, List.set_cons_zero, List.set_cons_succ]
        refine wpAnyH_take (i := 1) (v := ?_) rfl (by kernel_rfl) (by kernel_rfl) (by kernel_rfl) (fun _ _ _ h => h) (Or.inl ⟨rfl, ?_⟩) (by assumption) ?_
        rotate_left
        · intro W hSw
          (try dsimp only at hSw)
          go_simp
          try with_reducible rfl
        try simp only [List.getElem_toArray, List.getElem_cons_zero, List.getElem_cons_succ, Act.put, List.setIfInBounds_toArray, List.set_cons_zero, List.set_cons_succ]
        refine wpAnyH_take (i := 2) (v := ?_) rfl (by kernel_rfl) (by kernel_rfl) (by kernel_rfl) (fun _ _ _ h => h) (Or.inl ⟨rfl, ?_⟩) (by assumption) ?_
        rotate_left
        · intro W hSw
          (try dsimp only at hSw)
          go_simp
          try with_reducible rfl
        try simp only [List.getElem_toArray, List.getElem_cons_zero, List.getElem_cons_succ, Act.put, List.setIfInBounds_toArray, List.set_cons_zero, List.set_cons_succ]
        refine wpAnyH_take (i := 3) (v := ?_) rfl (by kernel_rfl) (by kernel_rfl) (by kernel_rfl) (fun _ _ _ h => h) (Or.inl ⟨rfl, ?_⟩) (by assumption) ?_
        rotate_left
        · intro W hSw
          (try dsimp only at hSw)
          go_simp
          try with_reducible rfl
        try simp only [List.getElem_toArray, List.getElem_cons_zero, List.getElem_cons_succ, Act.put, List.setIfInBounds_toArray, List.set_cons_zero, List.set_cons_succ]
        refine wpAnyH_take (i := 4) (v := ?_) rfl (by kernel_rfl) (by kernel_rfl) (by kernel_rfl) (fun _ _ _ h => h) (Or.inl ⟨rfl, ?_⟩) (by assumption) ?_
        rotate_left
        · intro W hSw
          (try dsimp only at hSw)
          go_simp
          try with_reducible rfl
        try simp only [List.getElem_toArray, List.getElem_cons_zero, List.getElem_cons_succ, Act.put, List.setIfInBounds_toArray, List.set_cons_zero, List.set_cons_succ]
        refine wpAnyH_ready (rs := [5]) (by kernel_rfl) (by simp) (AllReadyH.cons rfl (fun K hK => ?_) AllReadyH.nil)
        go_simp
        refine (erased_any _).mono ?_
        rintro e w4 ⟨b, rfl, hbW, hbx, hb4⟩
        have hb4' : Below wr.heap.size wr w4 := ⟨hb4.os, hb4.tape, hb4.output, hb4.size, hb4.block⟩
        have h4 := hc.out.below hb4'
        have hbF := hc.out.new (show wr.heap.size ≤ b from hbW)
        have p0 := h4.pp hix hpx
        have pf := (h4.prow i hix).frozen x
        rw [hpL] at p0 pf
        have h5 := h4.upd_page i x hix hpx (rep 288 255) (rep_len _ _) b hbx hbF.1 hbF.2
        rw [hpL] at h5
        unfold ptr at h5
        rw [setPages_page, wiped_step] at h5
        have hpf : Fm' (L.p i) := by rw [← hpL]; exact hc.out.fp i hix
        have hpi : Fm (L.p i) ∨ w.heap.size ≤ L.p i := hFm.out _ hpf
        have hbw : w.heap.size ≤ b := Nat.le_trans hk.out.size hbW
        have hk5 : Kept Fm w (w4.setCell ⟨L.p i, x, none⟩ (.pointer (some ⟨b, 0, none⟩))) := by rcases hpi with hp | hp; exact (hk.out.then hb4').set_in _ x _ hp; exact (hk.out.then hb4').set_new _ x _ hp
        replace h5 := Lib.hid h5
        replace hk5 := Lib.hid hk5
        refine hK.out _ _ (hS.out _ hb4') (fun hHeld => ?_)
        clear hK
        try simp only [List.getElem_toArray, List.getElem_cons_zero, List.getElem_cons_succ, Act.put, List.setIfInBounds_toArray, List.set_cons_zero, List.set_cons_succ]
        refine wpAnyH_take (i := 6) (v := ?_) rfl (by kernel_rfl) (by kernel_rfl) (by kernel_rfl) (fun _ _ _ h => h) (Or.inl ⟨rfl, ?_⟩) (by assumption) ?_
        rotate_left
        · intro W hSw
          (try dsimp only at hSw)
          go_simp
          try with_reducible rfl
        try simp only [List.getElem_toArray, List.getElem_cons_zero, List.getElem_cons_succ, Act.put, List.setIfInBounds_toArray, List.set_cons_zero, List.set_cons_succ]
        refine wpAnyH_ready (rs := [7]) (by kernel_rfl) (by simp) (AllReadyH.cons rfl (fun K hK => ?_) AllReadyH.nil)
        go_simp
        refine hK.out _ _ (((cell_far w4 _ x _ hkp 0).trans (hS.out _ hb4'))) (fun hHeld => ?_)
        clear hK
        try simp only [List.getElem_toArray, List.getElem_cons_zero, List.getElem_cons_succ, Act.put, List.setIfInBounds_toArray, List.set_cons_zero, List.set_cons_succ]
        refine wpAnyH_done (by kernel_rfl) ?_ _
        (try dsimp only [NoPanic])
        clear hS h4 hb4 hb4'
        go_wp2_with fail
        go_roundw
        case rel => exact ⟨x + 1, by omega, by go_num, _, _, h5.out, hk5.out, (fun y hy => by rcases hy with hy | rfl; exact hFm.out y hy; exact .inr hbw), hkL, hpL⟩
        case measure => simp [intOf]; omega
      · have hx' : x = s1.pn := by omega
        subst hx'
        have h6 : ChipR wr Fm' Fr c (s1.setPages i (s1.wiped i)) L' := hc
        have n2 := h6.b2 (i := i) hix
        have nf := (h6.blk i hix).frozen 2
        have h7 := h6.set_next (i := i) hix 0
        have hki' : Fm (L.k i) ∨ w.heap.size ≤ L.k i := .inl hki
        have hk7 := hk.set_in (L.k i) 2 (.int .i64 0) hki
        rw [hkL] at n2 nf h7
        replace h7 : ChipR _ Fm' Fr c (s1.cleared i) L' := h7
        replace h7 := Lib.hid h7
        replace hk7 := Lib.hid hk7
        replace hFm := Lib.hid hFm
        clear h6 hc hk
        go_wp2_with fail
        go_ret
        rw [hpr.out]
        exact ⟨_, _, rfl, h7.out, hk7.out, hFm.out⟩
  case neg =>
    have ze : (ek != 0) = true := by simpa using hek
    replace hpr : R = (s1.torn i em).judged i ek := by have := hpr.out; rw [if_pos hek] at this; exact this
    replace hpr := Lib.hid hpr
    clear hek
    -- all its bytes, masked, laid
    have hal := Lib.hid (all_any (h3.below ((Below.refl W3.heap.size W3).drew)) i hi1)
    have hpl := allOf_len (s1.blk i).pages s1.pn (h3.len i hi1)
    obtain ⟨bs, hbs⟩ : ∃ bs, allOf (s1.blk i).pages s1.pn = bs := ⟨_, rfl⟩
    rw [hbs] at hal hpl
    have hne : bs ≠ [] := by
      intro e
      have : 0 < s1.pn := by rw [s1pn]; exact hbnd.2.2.1
      rw [e] at hpl
      simp at hpl
      omega
    have hps : s1.pn * 288 ≤ 9216 := by rw [s1pn]; omega
    rw [← hpl] at hal hps
    have hlm := mask_len bs em
    have htorn : s1.torn i em = (s1.setPages i (s1.laid i (mask bs em))).setLook i { ((s1.setPages i (s1.laid i (mask bs em))).blk i).look with next := s1.pn } := by unfold Chip.torn; rw [hbs]
    obtain ⟨mk, hmk'⟩ : ∃ mk, mask bs em = mk := ⟨_, rfl⟩
    rw [hmk'] at hlm htorn
    have hmr : ∀ W, Same Fr W3 W → RdB W (.slice ma ml mc) em := fun W hW => hmv W (hsm3.trans hW)
    have hmask := Lib.hid (fun v W (hr : RdB W v bs) (hu : RdB W (.slice ma ml mc) em) => mask_any bs em v _ W hr hu hne (by omega) (by omega))
    rw [hmk'] at hmask
    unfold OwnRes at hmask
    have hS := Lib.hid (show ∀ W : World, Below W3.heap.size W3 W → (fun W => W.cell? ⟨E, 2, none⟩ = some (.slice ma ml mc)) W from fun W hW => (ebx3.below hW).get 2 _ rfl)
    have hlr := fun x (hx : Fr x) => h3.ltr x hx
    replace h3 := Lib.hid h3
    replace hk3 := Lib.hid hk3
    replace ebx3 := Lib.hid ebx3
    replace hmr := Lib.hid hmr
    replace hlr := Lib.hid hlr
    replace hpl := Lib.hid hpl
    replace hps := Lib.hid hps
    replace s1pn := Lib.hid s1pn
    replace s1bn := Lib.hid s1bn
    replace hlm := Lib.hid hlm
    clear hmv hsm3 hmk' hbs
    go_upto_region 10 with fail
    clear hW3 hW2 q1 qf hwr e1
    refine wp_region_noPanic ?_
    refine wp_region_held_drew (S := fun W => W.cell? ⟨E, 2, none⟩ = some (.slice ma ml mc)) (by kernel_rfl) (hS.out _ ((Below.refl W3.heap.size W3).drew)) (fun hHeld => ?_)
    refine wpAnyH_take (i := 0) (v := ?_) rfl (by kernel_rfl) (by kernel_rfl) (by kernel_rfl) (fun _ _ _ h => h) (Or.inl ⟨rfl, ?_⟩) (by assumption) ?_
    rotate_left
    · intro W hSw
      (try dsimp only at hSw)
      go_simp
      try with_reducible rfl
    try simp only [List.getElem_toArray, List.getElem_cons_zero, List.getElem_cons_succ, Act.put, List.setIfInBounds_toArray, List.set_cons_zero, List.set_cons_succ]
    refine wpAnyH_take (i := 1) (v := ?_) rfl (by kernel_rfl) (by kernel_rfl) (by kernel_rfl) (fun _ _ _ h => h) (Or.inl ⟨rfl, ?_⟩) (by assumption) ?_
    rotate_left
    · intro W hSw
      (try dsimp only at hSw)
      go_simp
      try with_reducible rfl
    try simp only [List.getElem_toArray, List.getElem_cons_zero, List.getElem_cons_succ, Act.put, List.setIfInBounds_toArray, List.set_cons_zero, List.set_cons_succ]
    refine wpAnyH_take (i := 3) (v := ?_) rfl (by kernel_rfl) (by kernel_rfl) (by kernel_rfl) (fun _ _ _ h => h) (Or.inl ⟨rfl, ?_⟩) (by assumption) ?_
    rotate_left
    · intro W hSw
      (try dsimp only at hSw)
      go_simp
      try with_reducible rfl
    try simp only [List.getElem_toArray, List.getElem_cons_zero, List.getElem_cons_succ, Act.put, List.setIfInBounds_toArray, List.set_cons_zero, List.set_cons_succ]
    refine wpAnyH_take (i := 4) (v := ?_) rfl (by kernel_rfl) (by kernel_rfl) (by kernel_rfl) (fun _ _ _ h => h) (Or.inl ⟨rfl, ?_⟩) (by assumption) ?_
    rotate_left
    · intro W hSw
      (try dsimp only at hSw)
      go_simp
      try with_reducible rfl
    try simp only [List.getElem_toArray, List.getElem_cons_zero, List.getElem_cons_succ, Act.put, List.setIfInBounds_toArray, List.set_cons_zero, List.set_cons_succ]
    refine wpAnyH_ready (rs := [2]) (by kernel_rfl) (by simp) (AllReadyH.cons rfl (fun K hK => ?_) AllReadyH.nil)
    go_simp
    (with_reducible refine hal.out.mono ?_)
    rintro e w4 ⟨v4, rfl, hown4, hb4⟩
    have hb4' : Below W3.heap.size W3 w4 := ⟨hb4.os, hb4.tape, hb4.output, hb4.size, hb4.block⟩
    obtain ⟨g4, q4, rfl, hg4, hO4⟩ := OwnB.of_own hown4 hne
    replace hmask := Lib.hid (hmask.out _ w4 hO4.rd (hmr.out w4 ⟨fun x hx => hb4'.block x (hlr.out x hx), hb4'.size⟩))
    refine hK.out _ _ (hS.out _ hb4') (fun hHeld => ?_)
    clear hK
    try simp only [List.getElem_toArray, List.getElem_cons_zero, List.getElem_cons_succ, Act.put, List.setIfInBounds_toArray, List.set_cons_zero, List.set_cons_succ]
    refine wpAnyH_ready (rs := [5]) (by kernel_rfl) (by simp) (AllReadyH.cons rfl (fun K hK => ?_) AllReadyH.nil)
    go_simp
    (with_reducible refine hmask.out.mono ?_)
    rintro e w5 ⟨g5, q5, rfl, hg5, hO5, hb5⟩
    have hb5' : Below W3.heap.size W3 w5 := hb4'.trans (hb5.mono hb4'.size)
    have h5 := h3.out.below hb5'
    have hg5F : ¬ Fm g5 := fun hx => by have := h3.out.ltm g5 hx; have := hb4'.size; omega
    have hly := Lib.hid (lay_any h5 i hi1 g5 q5 mk hO5 hg5F (by rw [hlm.out]; exact hpl.out))
    refine hK.out _ _ (hS.out _ hb5') (fun hHeld => ?_)
    clear hK
    try simp only [List.getElem_toArray, List.getElem_cons_zero, List.getElem_cons_succ, Act.put, List.setIfInBounds_toArray, List.set_cons_zero, List.set_cons_succ]
    refine wpAnyH_ready (rs := [6]) (by kernel_rfl) (by simp) (AllReadyH.cons rfl (fun K hK => ?_) AllReadyH.nil)
    go_simp
    (with_reducible refine hly.out.mono ?_)
    rintro e w6 ⟨rfl, h6, hk6⟩
    refine hK.out _ _ ((show World.cell? _ _ = _ from ((ebx3.out.below hb5').kept hk6 hEo.1).get 2 _ rfl)) (fun hHeld => ?_)
    clear hK
    try simp only [List.getElem_toArray, List.getElem_cons_zero, List.getElem_cons_succ, Act.put, List.setIfInBounds_toArray, List.set_cons_zero, List.set_cons_succ]
    refine wpAnyH_done (by kernel_rfl) ?_ _
    (try dsimp only [NoPanic])
    have ebx6 := (ebx3.out.below hb5').kept hk6 hEo.1
    have hk6' := (hk3.out.then hb5').trans hk6 (fun _ hb => .inl hb)
    clear hk6 h5 hg5F hly hO5 hO4 hown4 hb4 hb4' hb5 hb5' hS hal hmask hmr hlr h3 hk3 ebx3 hg4 hg5
    have n2 := h6.b2 (i := i) hi1
    have nf := (h6.blk i hi1).frozen 2
    have c1 := h6.c1
    have hki6 := h6.fk i hi1
    dsimp only at n2 nf c1 hki6
    have h7 := h6.set_next (i := i) hi1 (s1.pn : Int)
    have hk7 := hk6'.set_in (L.k i) 2 (.int .i64 (s1.pn : Int)) hki
    have ebx7 := ebx6.far ⟨L.k i, 2, none⟩ (.int .i64 (s1.pn : Int)) (by show L.k i ≠ E; intro e; rw [e] at hki; exact hEo.1 hki)
    dsimp only at h7
    rw [← htorn] at h7
    obtain ⟨W7, hW7⟩ : ∃ W7, w6.setCell ⟨L.k i, 2, none⟩ (.int .i64 (s1.pn : Int)) = W7 := ⟨_, rfl⟩
    rw [hW7] at h7 hk7 ebx7
    have c1' : w6.cell? ⟨c, 1, none⟩ = some (.int .i64 (s1.pn : Int)) := c1
    clear c1 htorn
    obtain ⟨s3, hs3⟩ : ∃ s3, s1.torn i em = s3 := ⟨_, rfl⟩
    have s3bn : s3.bn = st.bn := by rw [← hs3]; exact s1bn.out
    rw [hs3] at h7 hpr
    clear hs3
    have f0 := ebx7.get 0 _ rfl
    have f1 := ebx7.get 1 _ rfl
    have f2 := ebx7.get 2 _ rfl
    have hen := Lib.hid (ends_any h7 ea ek (.slice ma ml mc))
    replace h7 := Lib.hid h7
    replace hk7 := Lib.hid hk7
    clear h6 hk6' ebx6 ebx7
    go_wp2_with fail
    clear hW7
    refine hen.out.mono ?_
    rintro e w8 ⟨rfl, h8, hk8⟩
    have hi8 : i < (s3.ends ek).2.2.bn := by rw [ends_bn, s3bn]; exact hi
    have m3 := h8.b3 (i := i) hi8
    have mf := (h8.blk i hi8).frozen 3
    dsimp only at m3 mf
    have hpr' : R = ((s3.ends ek).1, (s3.ends ek).2.2.setLook i { ((s3.ends ek).2.2.blk i).look with bad := (s3.ends ek).2.1 }) := hpr.out
    have h9 := h8.set_bad (i := i) hi8 (s3.ends ek).2.1
    have hk9 := (hk7.out.trans hk8 (fun _ hb => .inl hb)).set_in (L.k i) 3 (.bool (s3.ends ek).2.1) hki
    obtain ⟨en, hen'⟩ : ∃ en, s3.ends ek = en := ⟨_, rfl⟩
    rw [hen'] at h9 hk9 hpr' m3 ⊢
    replace h9 := Lib.hid h9
    replace hk9 := Lib.hid hk9
    replace hpr' := Lib.hid hpr'
    clear h8 hk8 h7 hk7 hen f0 f1 f2 hen' hpr
    go_wp2_with fail
    go_ret
    rw [hpr'.out]
    exact ⟨_, _, rfl, h9.out, hk9.out, fun x hx => .inl hx⟩
end Go.Proofs.Ytlgjlhgdpiipbaa
/- may and the reference's events. -/
namespace Go.Proofs.Ytlgjlhgdpiipbaa
open Go.RowKit
def evOk (last : Int) (e : Ev) : Prop := ¬ e.at_ ≤ last ∧ (e.kind = 1 ∨ e.kind = 2) ∧ e.mask.length ≤ 288
instance (last : Int) (e : Ev) : Decidable (evOk last e) := by unfold evOk; infer_instance
/-- May these events be? -/
def mayFrom : Int → List Ev → Bool
  | _, [] => true
  | last, e :: r => if evOk last e then mayFrom e.at_ r else false
theorem mayFrom_yes {last : Int} {e : Ev} {r : List Ev} (h : evOk last e) : mayFrom last (e :: r) = mayFrom e.at_ r := if_pos h
theorem mayFrom_no {last : Int} {e : Ev} {r : List Ev} (h : ¬ evOk last e) : mayFrom last (e :: r) = false := if_neg h
theorem mayFrom_mask : ∀ {evs : List Ev} {last : Int}, mayFrom last evs = true → ∀ e ∈ evs, e.mask.length ≤ 288
  | [], _, _, e, he => by simp at he
  | a :: r, last, h, e, he => by
    by_cases ha : evOk last a
    · rw [mayFrom_yes ha] at h
      rcases List.mem_cons.1 he with rfl | he
      · exact ha.2.2
      · exact mayFrom_mask h e he
    · rw [mayFrom_no ha] at h; cases h
theorem same_of_below {W W' : World} {B : Nat} (h : Below B W W') : Same (fun b => b < B) W W' := ⟨fun b hb => h.block b hb, h.size⟩
theorem EvS.at {W : World} {R : Nat → Prop} {v : Value} {evs : List Ev} (h : EvS W R v evs) (hne : evs ≠ []) :
    ∃ b o cap, v = .slice (some ⟨b, o, none⟩) evs.length cap ∧ evs.length ≤ cap ∧ b < W.heap.size ∧ R b ∧ ∀ j (hj : j < evs.length), ∃ mv, W.cell? ⟨b, o + j * 3, none⟩ = some (.int .i64 evs[j].at_) ∧ W.cell? ⟨b, o + j * 3 + 1, none⟩ = some (.int .i64 evs[j].kind) ∧ W.cell? ⟨b, o + j * 3 + 2, none⟩ = some mv ∧ ∀ W', Same R W W' → RdB W' mv evs[j].mask := by
  obtain ⟨a, cap, rfl, hc, h3⟩ := h
  match evs, hne with
  | x :: xs, _ =>
    obtain ⟨b, o, _, rfl, hb, hR, _⟩ := h3 0 x rfl
    refine ⟨b, o, cap, rfl, hc, hb, hR, fun j hj => ?_⟩
    obtain ⟨b', o', mv, e, _, _, h4, h5, h6, h7⟩ := h3 j _ (List.getElem?_eq_getElem hj)
    cases e
    exact ⟨mv, h4, h5, h6, h7⟩
theorem EvS.len {W : World} {R : Nat → Prop} {v : Value} {evs : List Ev} (h : EvS W R v evs) : ∃ a cap, v = .slice a evs.length cap := by
  obtain ⟨a, cap, h1, _⟩ := h; exact ⟨a, cap, h1⟩
set_option maxRecDepth 100000 in
set_option maxHeartbeats 4000000 in
theorem may_any (evs : List Ev) (v : Value) (w : World) (B : Nat) (hB0 : B ≤ w.heap.size) (hl : evs.length ≤ 9223372036854775807) (he : EvS w (fun b => b < B) v evs) : Calls Try.prog 32 #[v] w fun e w' => e = .returned (.bool (mayFrom 0 evs)) ∧ Below w.heap.size w w' := by
  obtain ⟨va, vc, rfl⟩ := he.len
  have hew := Lib.hid (fun (W : World) (hW : Below w.heap.size w W) => he.same (⟨fun b hb => hW.block b (Nat.lt_of_lt_of_le hb hB0), hW.size⟩ : Same (fun b => b < B) w W))
  clear he
  go_enter Try.func32, Try.ntmps32
  go_wp2_with fail
  go_loopw [3, 8] (fun last i wr => ∃ (k : Nat) (z : Int), k ≤ evs.length ∧ i = .int .i64 k ∧ last = .int .i64 z ∧ mayFrom 0 evs = mayFrom z (evs.drop k) ∧ Below w.heap.size w wr) (fun _ i _ => evs.length - (intOf i).toNat)
  case atStart => exact ⟨0, 0, by omega, rfl, rfl, rfl, Below.refl _ _⟩
  case round =>
    obtain ⟨k, z, hk, rfl, rfl, hm, hB⟩ := hrel
    by_cases hlt : k < evs.length
    · obtain ⟨bb, o, cc, hv, _, _, _, hcell⟩ := (hew.out wr hB).at (by intro e; rw [e] at hlt; simp at hlt)
      cases hv
      obtain ⟨mv, c0, c1, c2, hmv⟩ := hcell k hlt
      rw [List.drop_eq_getElem_cons hlt] at hm
      obtain ⟨ma, mc, hme⟩ := (hmv wr (Same.refl _ _)).len
      obtain ⟨q, hq⟩ : ∃ q, evs[k] = q := ⟨_, rfl⟩
      rw [hq] at c0 c1 hm hme
      clear hcell hmv hq
      subst hme
      have hyes := fun h => hm.trans (mayFrom_yes (last := z) (e := q) (r := evs.drop (k + 1)) h)
      have hno := fun h => hm.trans (mayFrom_no (last := z) (e := q) (r := evs.drop (k + 1)) h)
      have hok : evOk z q ↔ (¬ q.at_ ≤ z ∧ (q.kind = 1 ∨ q.kind = 2) ∧ q.mask.length ≤ 288) := Iff.rfl
      obtain ⟨ea, ek, em⟩ := q
      dsimp only at c0 c1 c2 hyes hno hok
      obtain ⟨ml, hml⟩ : ∃ ml, em.length = ml := ⟨_, rfl⟩
      rw [hml] at c2 hok
      replace hml := Lib.hid hml
      clear hm
      have hI0 : (0 : Int) ≤ (k : Int) := by omega
      have hI1 : (k : Int) < (evs.length : Int) := by omega
      have bx := Box.new wr 67 #[.int .i64 ea, .int .i64 ek, .slice ma ml mc]
      have x0 := bx.get 0 _ rfl
      have x1 := bx.get 1 _ rfl
      have x2 := bx.get 2 _ rfl
      have hBx := Lib.hid (hB.alloc hB.size (.cells #[.int .i64 ea, .int .i64 ek, .slice ma ml mc] 67))
      clear bx hB
      replace hok := Lib.hid hok
      replace hyes := Lib.hid hyes
      replace hno := Lib.hid hno
      by_cases h1 : ea ≤ z
      · have hf := Lib.hid (hno.out (fun h => (hok.out.1 h).1 h1))
        go_wp2_with fail
        go_ret
        exact ⟨by rw [hf.out]; rfl, hBx.out⟩
      by_cases h2 : ek = 1
      case neg =>
        have z2 : (ek != 1) = true := by simpa using h2
        by_cases h3 : ek = 2
        case neg =>
          have z3 : (ek != 2) = true := by simpa using h3
          have hf := Lib.hid (hno.out (fun h => by have := (hok.out.1 h).2.1; omega))
          clear h2 h3
          go_wp2_with fail
          go_ret
          exact ⟨by rw [hf.out]; rfl, hBx.out⟩
        have z3 : (ek != 2) = false := by simpa using h3
        by_cases h4 : ml ≤ 288
        case neg =>
          have z4 : (ml : Int) > 288 := by omega
          have hf := Lib.hid (hno.out (fun h => h4 (hok.out.1 h).2.2))
          clear h2 h3
          go_wp2_with fail
          go_ret
          exact ⟨by rw [hf.out]; rfl, hBx.out⟩
        have z4 : ¬ (ml : Int) > 288 := by omega
        have hf := Lib.hid (hyes.out (hok.out.2 ⟨h1, .inr h3, h4⟩))
        clear h2 h3
        go_wp2_with fail
        go_roundw
        case rel => exact ⟨k + 1, ea, by omega, by go_num, rfl, hf.out, hBx.out⟩
        case measure => simp [intOf]; omega
      have z2 : (ek != 1) = false := by simpa using h2
      by_cases h4 : ml ≤ 288
      case neg =>
        have z4 : (ml : Int) > 288 := by omega
        have hf := Lib.hid (hno.out (fun h => h4 (hok.out.1 h).2.2))
        clear h2
        go_wp2_with fail
        go_ret
        exact ⟨by rw [hf.out]; rfl, hBx.out⟩
      have z4 : ¬ (ml : Int) > 288 := by omega
      have hf := Lib.hid (hyes.out (hok.out.2 ⟨h1, .inl h2, h4⟩))
      clear h2
      go_wp2_with fail
      go_roundw
      case rel => exact ⟨k + 1, ea, by omega, by go_num, rfl, hf.out, hBx.out⟩
      case measure => simp [intOf]; omega
    · have hk' : k = evs.length := by omega
      subst hk'
      rw [List.drop_length] at hm
      replace hm := Lib.hid hm
      replace hB := Lib.hid hB
      go_wp2_with fail
      go_ret
      exact ⟨by rw [hm.out]; rfl, hB.out⟩
set_option maxRecDepth 100000 in
set_option maxHeartbeats 4000000 in
theorem events_any (evs : List Ev) (v : Value) (w : World) (B : Nat) (hB0 : B ≤ w.heap.size) (hl : evs.length ≤ 9223372036854775807) (he : EvS w (fun b => b < B) v evs) : Calls Try.prog 35 #[v] w fun e w' => e = .returned (.bool (mayFrom 0 evs)) ∧ Below w.heap.size w w' := by
  obtain ⟨va, vc, rfl⟩ := he.len
  have hew := Lib.hid (fun (W : World) (hW : Below w.heap.size w W) => he.same (⟨fun b hb => hW.block b (Nat.lt_of_lt_of_le hb hB0), hW.size⟩ : Same (fun b => b < B) w W))
  clear he
  go_enter Try.func35, Try.ntmps35
  go_wp2_with fail
  go_loopw [3, 4] (fun last i wr => ∃ (k : Nat) (z : Int), k ≤ evs.length ∧ i = .int .i64 k ∧ last = .int .i64 z ∧ mayFrom 0 evs = mayFrom z (evs.drop k) ∧ Below w.heap.size w wr) (fun _ i _ => evs.length - (intOf i).toNat)
  case atStart => exact ⟨0, 0, by omega, rfl, rfl, rfl, Below.refl _ _⟩
  case round =>
    obtain ⟨k, z, hk, rfl, rfl, hm, hB⟩ := hrel
    by_cases hlt : k < evs.length
    · obtain ⟨bb, o, cc, hv, _, _, _, hcell⟩ := (hew.out wr hB).at (by intro e; rw [e] at hlt; simp at hlt)
      cases hv
      obtain ⟨mv, c0, c1, c2, hmv⟩ := hcell k hlt
      rw [List.drop_eq_getElem_cons hlt] at hm
      obtain ⟨ma, mc, hme⟩ := (hmv wr (Same.refl _ _)).len
      obtain ⟨q, hq⟩ : ∃ q, evs[k] = q := ⟨_, rfl⟩
      rw [hq] at c0 c1 hm hme
      clear hcell hmv hq
      subst hme
      have hyes := fun h => hm.trans (mayFrom_yes (last := z) (e := q) (r := evs.drop (k + 1)) h)
      have hno := fun h => hm.trans (mayFrom_no (last := z) (e := q) (r := evs.drop (k + 1)) h)
      have hok : evOk z q ↔ (¬ q.at_ ≤ z ∧ (q.kind = 1 ∨ q.kind = 2) ∧ q.mask.length ≤ 288) := Iff.rfl
      obtain ⟨ea, ek, em⟩ := q
      dsimp only at c0 c1 c2 hyes hno hok
      obtain ⟨ml, hml⟩ : ∃ ml, em.length = ml := ⟨_, rfl⟩
      rw [hml] at c2 hok
      replace hml := Lib.hid hml
      clear hm
      have hI0 : (0 : Int) ≤ (k : Int) := by omega
      have hI1 : (k : Int) < (evs.length : Int) := by omega
      have hBx := Lib.hid hB
      clear hB
      replace hok := Lib.hid hok
      replace hyes := Lib.hid hyes
      replace hno := Lib.hid hno
      by_cases h1 : ea ≤ z
      · have hf := Lib.hid (hno.out (fun h => (hok.out.1 h).1 h1))
        go_wp2_with fail
        go_ret
        exact ⟨by rw [hf.out]; rfl, hBx.out⟩
      by_cases h2 : ek = 1
      case neg =>
        have z2 : (ek != 1) = true := by simpa using h2
        by_cases h3 : ek = 2
        case neg =>
          have z3 : (ek != 2) = true := by simpa using h3
          have hf := Lib.hid (hno.out (fun h => by have := (hok.out.1 h).2.1; omega))
          clear h2 h3
          go_wp2_with fail
          go_ret
          exact ⟨by rw [hf.out]; rfl, hBx.out⟩
        have z3 : (ek != 2) = false := by simpa using h3
        by_cases h4 : ml ≤ 288
        case neg =>
          have z4 : (ml : Int) > 288 := by omega
          have hf := Lib.hid (hno.out (fun h => h4 (hok.out.1 h).2.2))
          clear h2 h3
          go_wp2_with fail
          go_ret
          exact ⟨by rw [hf.out]; rfl, hBx.out⟩
        have z4 : ¬ (ml : Int) > 288 := by omega
        have hf := Lib.hid (hyes.out (hok.out.2 ⟨h1, .inr h3, h4⟩))
        clear h2 h3
        go_wp2_with fail
        go_roundw
        case rel => exact ⟨k + 1, ea, by omega, by go_num, rfl, hf.out, hBx.out⟩
        case measure => simp [intOf]; omega
      have z2 : (ek != 1) = false := by simpa using h2
      by_cases h4 : ml ≤ 288
      case neg =>
        have z4 : (ml : Int) > 288 := by omega
        have hf := Lib.hid (hno.out (fun h => h4 (hok.out.1 h).2.2))
        clear h2
        go_wp2_with fail
        go_ret
        exact ⟨by rw [hf.out]; rfl, hBx.out⟩
      have z4 : ¬ (ml : Int) > 288 := by omega
      have hf := Lib.hid (hyes.out (hok.out.2 ⟨h1, .inl h2, h4⟩))
      clear h2
      go_wp2_with fail
      go_roundw
      case rel => exact ⟨k + 1, ea, by omega, by go_num, rfl, hf.out, hBx.out⟩
      case measure => simp [intOf]; omega
    · have hk' : k = evs.length := by omega
      subst hk'
      rw [List.drop_length] at hm
      replace hm := Lib.hid hm
      replace hB := Lib.hid hB
      go_wp2_with fail
      go_ret
      exact ⟨by rw [hm.out]; rfl, hB.out⟩
end Go.Proofs.Ytlgjlhgdpiipbaa
