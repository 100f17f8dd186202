/- Program. -/
import Derived.Test.YtlgjlhgdpiipbaaN
namespace Go.Proofs.Ytlgjlhgdpiipbaa
open Go.RowKit
/-- Programs a page: the answer, the chip behind it. -/
def Chip.program (st : Chip) (n page : Int) (pg : List UInt8) : Int × Chip :=
  if st.asks n page ≠ 0 then (st.asks n page, st) else
  if (st.blk n.toNat).look.bad then (23, st) else
  if page < (st.blk n.toNat).look.next then (24, st) else
  let s1 := st.nextEv.2.setPage n.toNat page.toNat (mask pg st.nextEv.1.mask)
  let s2 := s1.setLook n.toNat { (s1.blk n.toNat).look with next := page + 1 }
  ((s2.ends st.nextEv.1.kind).1, (s2.ends st.nextEv.1.kind).2.2)
/-- No event has too long a mask. -/
def Chip.fits (st : Chip) : Prop := ∀ e ∈ st.evs, e.mask.length ≤ 288
theorem nextEv_mask (st : Chip) (h : st.fits) : st.nextEv.1.mask.length ≤ 288 := by
  unfold Chip.nextEv
  rcases he : st.evs with _ | ⟨e, r⟩
  · exact Nat.zero_le _
  · simp only
    split
    · exact h e (by rw [he]; exact List.mem_cons_self ..)
    · exact Nat.zero_le _
theorem nextEv_blk (st : Chip) : st.nextEv.2.blk = st.blk ∧ st.nextEv.2.bn = st.bn ∧ st.nextEv.2.pn = st.pn := by
  unfold Chip.nextEv
  rcases he : st.evs with _ | ⟨e, r⟩
  · exact ⟨rfl, rfl, rfl⟩
  · simp only
    split <;> exact ⟨rfl, rfl, rfl⟩
theorem Box.rdB {W : World} {b : Nat} {t : TypeId} {l : List UInt8} (h : Box W b t (cellsB l)) : RdB W (.slice (some ⟨b, 0, none⟩) l.length l.length) l :=
  ⟨_, _, rfl, Nat.le_refl _, fun j x hj => by
    obtain ⟨hlt, rfl⟩ := List.getElem?_eq_some_iff.1 hj
    exact ⟨b, 0, rfl, h.lt, by rw [Nat.zero_add]; exact h.get j _ (cellsB_get l j hlt)⟩⟩
section
variable {W : World} {Fm Fr : Nat → Prop} {c : Nat} {st : Chip} {L : Lay}
theorem ChipR.set_wear (h : ChipR W Fm Fr c st L) {i : Nat} (hi : i < st.bn) (x : Int) : ChipR (W.setCell ⟨L.k i, 1, none⟩ (.int .i64 x)) Fm Fr c (st.setLook i { (st.blk i).look with wear := x }) L := by
  refine h.upd_look i hi _ ?_ (grown_set1 W _ 1 _)
  have := (h.blk i hi).set 1 (.int .i64 x)
  have he : blkA L (st.setLook i { (st.blk i).look with wear := x }) i = (blkA L st i).setIfInBounds 1 (.int .i64 x) := by unfold blkA; rw [setLook_look, if_pos rfl]; rfl
  rw [he]; exact this
theorem ChipR.set_next (h : ChipR W Fm Fr c st L) {i : Nat} (hi : i < st.bn) (x : Int) : ChipR (W.setCell ⟨L.k i, 2, none⟩ (.int .i64 x)) Fm Fr c (st.setLook i { (st.blk i).look with next := x }) L := by
  refine h.upd_look i hi _ ?_ (grown_set1 W _ 2 _)
  have := (h.blk i hi).set 2 (.int .i64 x)
  have he : blkA L (st.setLook i { (st.blk i).look with next := x }) i = (blkA L st i).setIfInBounds 2 (.int .i64 x) := by unfold blkA; rw [setLook_look, if_pos rfl]; rfl
  rw [he]; exact this
theorem ChipR.set_bad (h : ChipR W Fm Fr c st L) {i : Nat} (hi : i < st.bn) (x : Bool) : ChipR (W.setCell ⟨L.k i, 3, none⟩ (.bool x)) Fm Fr c (st.setLook i { (st.blk i).look with bad := x }) L := by
  refine h.upd_look i hi _ ?_ (grown_set1 W _ 3 _)
  have := (h.blk i hi).set 3 (.bool x)
  have he : blkA L (st.setLook i { (st.blk i).look with bad := x }) i = (blkA L st i).setIfInBounds 3 (.bool x) := by unfold blkA; rw [setLook_look, if_pos rfl]; rfl
  rw [he]; exact this
end
theorem ChipR.grown_out {W W' : World} {Fm Fr : Nat → Prop} {c : Nat} {st : Chip} {L : Lay} (h : ChipR W Fm Fr c st L) {b : Nat} (hg : W.grownBy W' (some b)) (hb : ¬ Fm b ∧ ¬ Fr b) : ChipR W' Fm Fr c st L :=
  h.same ⟨fun x hx => hg.block x (by rcases hx with hx | hx; exact h.ltm x hx; exact h.ltr x hx) (fun e => by cases e; rcases hx with hx | hx; exact hb.1 hx; exact hb.2 hx), hg.size⟩
theorem Kept.grown_new {F : Nat → Prop} {A B C : World} (h : Kept F A B) {b : Nat} (hg : B.grownBy C (some b)) (hb : A.heap.size ≤ b) : Kept F A C :=
  h.trans (Kept.of_grown (F := fun x => x = b) hg rfl) (fun x hx => .inr (by subst hx; exact hb))
/-- What a changing call leaves: a chip, in old places or new ones. -/
def OpRes (Fm Fr : Nat → Prop) (c : Nat) (r : Int × Chip) (w : World) (e : Ending) (w' : World) : Prop :=
  ∃ Fm' L', e = .returned (.int .i64 r.1) ∧ ChipR w' Fm' Fr c r.2 L' ∧ Kept Fm w w' ∧ ∀ x, Fm' x → Fm x ∨ w.heap.size ≤ x
set_option maxRecDepth 100000 in
set_option maxHeartbeats 4000000 in
theorem program_any {Fm Fr : Nat → Prop} {c : Nat} {st : Chip} {L : Lay} {w : World} (h : ChipR w Fm Fr c st L) (hf : st.fits) (ho : st.ops < 1000000) (n page : Int) (pg : List UInt8) (hp : pg.length = 288) :
    Calls Try.prog 27 #[.pointer (some ⟨c, 0, none⟩), .int .i64 n, .int .i64 page, pgV pg] w (OpRes Fm Fr c (st.program n page pg) w) := by
  have hb := (Below.refl w.heap.size w).alloc (Nat.le_refl _) (.cells (cellsB pg) 48)
  have h0 := h.below hb
  have hk0 : Kept Fm w _ := Kept.of_below hb
  have bx := Box.new w 48 (cellsB pg)
  have hout := h.new (Nat.le_refl w.heap.size)
  obtain ⟨W0, hW0⟩ : ∃ W0, w.alloc (.cells (cellsB pg) 48) = W0 := ⟨_, rfl⟩
  rw [hW0] at h0 hk0 bx
  have ha := Lib.hid (asks_any h0 n page)
  unfold pgV
  by_cases hz : st.asks n page = 0
  case neg =>
    have hl : st.program n page pg = (st.asks n page, st) := by unfold Chip.program; rw [if_pos hz]
    rw [hl]
    obtain ⟨a, haa⟩ : ∃ a, st.asks n page = a := ⟨_, rfl⟩
    rw [haa] at ha hz ⊢
    have hn : (a != 0) = true := by simpa using hz
    replace h0 := Lib.hid h0
    replace hk0 := Lib.hid hk0
    clear h hl hz bx hb haa
    go_enter Try.func27, Try.ntmps27
    go_wp2_with (go_at_call 44; (with_reducible refine ha.out.mono ?_); rintro e w' ⟨rfl, hw⟩; obtain rfl := hw.symm)
    go_ret
    exact ⟨Fm, L, rfl, h0.out, hk0.out, fun x hx => .inl hx⟩
  obtain ⟨_, _, i, j, rfl, hi, rfl, hj⟩ := Chip.asks_ok hz
  rw [hz] at ha
  have c2 := h0.c2
  have r0 := h0.r hi
  have b3 := h0.b3 hi
  have b2 := h0.b2 hi
  have hI : (i : Int) < (st.bn : Int) := by omega
  have hI0 : (0 : Int) ≤ (i : Int) := by omega
  have hJ : (j : Int) < (st.pn : Int) := by omega
  have hJ0 : (0 : Int) ≤ (j : Int) := by omega
  have hpr : st.program (i : Int) (j : Int) pg = if (st.blk i).look.bad then (23, st) else if (j : Int) < (st.blk i).look.next then (24, st) else
      (((((st.nextEv.2.setPage i j (mask pg st.nextEv.1.mask)).setLook i { ((st.nextEv.2.setPage i j (mask pg st.nextEv.1.mask)).blk i).look with next := (j : Int) + 1 }).ends st.nextEv.1.kind).1, (((st.nextEv.2.setPage i j (mask pg st.nextEv.1.mask)).setLook i { ((st.nextEv.2.setPage i j (mask pg st.nextEv.1.mask)).blk i).look with next := (j : Int) + 1 }).ends st.nextEv.1.kind).2.2)) := by
    unfold Chip.program
    rw [if_neg (by simpa using hz)]
    rfl
  obtain ⟨R, hR⟩ : ∃ R, st.program (i : Int) (j : Int) pg = R := ⟨_, rfl⟩
  rw [hR] at hpr ⊢
  clear hR hz
  rcases hbad : (st.blk i).look.bad with _ | _
  case true =>
    rw [hbad] at b3 hpr
    rw [if_pos rfl] at hpr
    subst hpr
    replace h0 := Lib.hid h0
    replace hk0 := Lib.hid hk0
    clear h bx hb hbad b2
    go_enter Try.func27, Try.ntmps27
    go_wp2_with (go_at_call 44; (with_reducible refine ha.out.mono ?_); rintro e w' ⟨rfl, hw⟩; obtain rfl := hw.symm)
    go_ret
    exact ⟨Fm, L, rfl, h0.out, hk0.out, fun x hx => .inl hx⟩
  rw [hbad] at b3 hpr
  rw [if_neg (by simp)] at hpr
  by_cases hlt : (j : Int) < (st.blk i).look.next
  case pos =>
    rw [if_pos hlt] at hpr
    subst hpr
    replace h0 := Lib.hid h0
    replace hk0 := Lib.hid hk0
    clear h bx hb hbad
    go_enter Try.func27, Try.ntmps27
    go_wp2_with (go_at_call 44; (with_reducible refine ha.out.mono ?_); rintro e w' ⟨rfl, hw⟩; obtain rfl := hw.symm)
    go_ret
    exact ⟨Fm, L, rfl, h0.out, hk0.out, fun x hx => .inl hx⟩
  rw [if_neg hlt] at hpr
  have hnx := Lib.hid (next_any h0 ho)
  have hmk := nextEv_mask st hf
  obtain ⟨hbl, hbn, hpn⟩ := nextEv_blk st
  have hbnd := h.bnd
  obtain ⟨N, hN⟩ : ∃ N, st.nextEv = N := ⟨_, rfl⟩
  rw [hN] at hnx hmk hbl hbn hpn hpr
  clear hN
  obtain ⟨⟨ea, ek, em⟩, s0⟩ := N
  dsimp only at hmk hbl hbn hpn hpr
  replace hpr := Lib.hid hpr
  have hws := Nat.le_of_lt bx.lt
  replace hk0 := Lib.hid hk0
  clear h hb hbad h0 hf
  go_enter Try.func27, Try.ntmps27
  go_wp2_with (go_at_call 44; (with_reducible refine ha.out.mono ?_); rintro e w' ⟨rfl, hw⟩; obtain rfl := hw.symm)
  clear hW0
  refine hnx.out.mono ?_
  rintro e w1 ⟨v, ev', rfl, ⟨mv, rfl, hmv⟩, h1, hk1⟩
  clear hnx c2 r0 b3 b2 ha hlt
  dsimp only at hmv h1
  have hk1' := hk0.out.trans hk1 (fun _ hb => .inl hb)
  have bx1 := bx.kept hk1 hout.1
  clear hk1 hk0 bx
  obtain ⟨ma, mc, hme⟩ := (hmv w1 (Same.refl _ _)).len
  obtain ⟨ml, hml⟩ : ∃ ml, em.length = ml := ⟨_, rfl⟩
  rw [hml] at hme
  subst hme
  have hws1 := bx1.lt
  have hba := (Below.refl w1.heap.size w1).alloc (Nat.le_refl _) (.cells #[.int .i64 ea, .int .i64 ek, .slice ma ml mc] 67)
  have h2 := h1.below hba
  have hk2 := hk1'.then hba
  have bx2 := bx1.below hba
  have ebx := Box.new w1 67 #[.int .i64 ea, .int .i64 ek, .slice ma ml mc]
  have hsm : Same Fr w1 (w1.alloc (.cells #[.int .i64 ea, .int .i64 ek, .slice ma ml mc] 67)) := ⟨fun x hx => hba.block x (h1.ltr x hx), hba.size⟩
  obtain ⟨W2, hW2⟩ : ∃ W2, w1.alloc (.cells #[.int .i64 ea, .int .i64 ek, .slice ma ml mc] 67) = W2 := ⟨_, rfl⟩
  obtain ⟨E, hE⟩ : ∃ E, w1.heap.size = E := ⟨_, rfl⟩
  rw [hW2] at h2 hk2 bx2 ebx hsm
  rw [hE] at ebx hws1
  have hld := bx2.loadPg hp
  have hof := Lib.hid (of_any pg W2 hp)
  have hEm : ¬ Fm E := by rw [← hE]; exact (h1.new (Nat.le_refl _)).1
  replace h2 := Lib.hid h2
  replace hk2 := Lib.hid hk2
  replace ebx := Lib.hid ebx
  replace hsm := Lib.hid hsm
  clear h1 hk1' bx1 hba bx2
  go_wp2_with (refine wpList_load_var rfl 48 _ rfl _ rfl _ hld ?_)
  refine hof.out.mono ?_
  rintro e w3 ⟨b, rfl, hbW, hbx, hb3⟩
  have hbF := h2.out.new hbW
  have h3 := h2.out.below hb3
  have hk3 := hk2.out.then hb3
  have ebx3 := ebx.out.below hb3
  have hbw : w.heap.size ≤ b := Nat.le_trans hk2.out.size hbW
  have hEb : E ≠ b := by have := ebx.out.lt; omega
  have hsm3 : Same Fr w1 w3 := hsm.out.trans ⟨fun x hx => hb3.block x (h2.out.ltr x hx), hb3.size⟩
  have hmr := hmv _ hsm3
  clear h2 hk2 ebx hsm hb3 hof hld hmv hbW
  have hu3 := hbx.rdB
  rw [hp] at hu3
  have hm47 := Lib.hid (mask_any pg em _ _ w3.drew (show RdB w3.drew _ pg from hu3) (show RdB w3.drew (.slice ma ml mc) em from hmr) (by intro e; rw [e] at hp; simp at hp) (by omega) (by omega))
  have hlm := mask_len pg em
  rw [hp] at hlm
  obtain ⟨mk, hmk'⟩ : ∃ mk, mask pg em = mk := ⟨_, rfl⟩
  rw [hmk'] at hm47 hlm hpr
  clear hmk' hmr hu3 hmk
  unfold OwnRes at hm47
  rw [hlm] at hm47
  have hS := Lib.hid (show ∀ W : World, Below w3.heap.size w3 W → (fun W => W.cell? ⟨E, 2, none⟩ = some (.slice ma ml mc)) W from fun W hW => (ebx3.below hW).get 2 _ rfl)
  replace h3 := Lib.hid h3
  replace hk3 := Lib.hid hk3
  replace ebx3 := Lib.hid ebx3
  replace hbx := Lib.hid hbx
  go_upto_region 11 with fail
  refine wp_region_noPanic ?_
  refine wp_region_held_drew (S := fun W => W.cell? ⟨E, 2, none⟩ = some (.slice ma ml mc)) (by kernel_rfl) (hS.out _ ((Below.refl w3.heap.size w3).drew)) (fun hHeld => ?_)
  refine wpAnyH_take (i := 0) (v := ?_) rfl (by kernel_rfl) (by kernel_rfl) (by kernel_rfl) (fun _ _ _ h => h) (Or.inl ⟨rfl, ?_⟩) (by assumption) ?_
  rotate_left
  · intro W hSw
    (try dsimp only at hSw)
    go_simp
    try with_reducible rfl
  try simp only [List.getElem_toArray, List.getElem_cons_zero, List.getElem_cons_succ, Act.put, List.setIfInBounds_toArray, List.set_cons_zero, List.set_cons_succ]
  refine wpAnyH_take (i := 1) (v := ?_) rfl (by kernel_rfl) (by kernel_rfl) (by kernel_rfl) (fun _ _ _ h => h) (Or.inl ⟨rfl, ?_⟩) (by assumption) ?_
  rotate_left
  · intro W hSw
    (try dsimp only at hSw)
    go_simp
    try with_reducible rfl
  try simp only [List.getElem_toArray, List.getElem_cons_zero, List.getElem_cons_succ, Act.put, List.setIfInBounds_toArray, List.set_cons_zero, List.set_cons_succ]
  refine wpAnyH_take (i := 2) (v := ?_) rfl (by kernel_rfl) (by kernel_rfl) (by kernel_rfl) (fun _ _ _ h => h) (Or.inl ⟨rfl, ?_⟩) (by assumption) ?_
  rotate_left
  · intro W hSw
    (try dsimp only at hSw)
    go_simp
    try with_reducible rfl
  try simp only [List.getElem_toArray, List.getElem_cons_zero, List.getElem_cons_succ, Act.put, List.setIfInBounds_toArray, List.set_cons_zero, List.set_cons_succ]
  refine wpAnyH_take (i := 3) (v := ?_) rfl (by kernel_rfl) (by kernel_rfl) (by kernel_rfl) (fun _ _ _ h => h) (Or.inl ⟨rfl, ?_⟩) (by assumption) ?_
  rotate_left
  · intro W hSw
    (try dsimp only at hSw)
    go_simp
    try with_reducible rfl
  try simp only [List.getElem_toArray, List.getElem_cons_zero, List.getElem_cons_succ, Act.put, List.setIfInBounds_toArray, List.set_cons_zero, List.set_cons_succ]
  refine wpAnyH_take (i := 4) (v := ?_) rfl (by kernel_rfl) (by kernel_rfl) (by kernel_rfl) (fun _ _ _ h => h) (Or.inl ⟨rfl, ?_⟩) (by assumption) ?_
  rotate_left
  · intro W hSw
    (try dsimp only at hSw)
    go_simp
    try with_reducible rfl
  try simp only [List.getElem_toArray, List.getElem_cons_zero, List.getElem_cons_succ, Act.put, List.setIfInBounds_toArray, List.set_cons_zero, List.set_cons_succ]
  refine wpAnyH_take (i := 5) (v := ?_) rfl (by kernel_rfl) (by kernel_rfl) (by kernel_rfl) (fun _ _ _ h => h) (Or.inl ⟨rfl, ?_⟩) (by assumption) ?_
  rotate_left
  · intro W hSw
    (try dsimp only at hSw)
    go_simp
    try with_reducible rfl
  try simp only [List.getElem_toArray, List.getElem_cons_zero, List.getElem_cons_succ, Act.put, List.setIfInBounds_toArray, List.set_cons_zero, List.set_cons_succ]
  refine wpAnyH_take (i := 6) (v := ?_) rfl (by kernel_rfl) (by kernel_rfl) (by kernel_rfl) (fun _ _ _ h => h) (Or.inl ⟨rfl, ?_⟩) (by assumption) ?_
  rotate_left
  · intro W hSw
    (try dsimp only at hSw)
    go_simp
    try with_reducible rfl
  try simp only [List.getElem_toArray, List.getElem_cons_zero, List.getElem_cons_succ, Act.put, List.setIfInBounds_toArray, List.set_cons_zero, List.set_cons_succ]
  refine wpAnyH_take (i := 7) (v := ?_) rfl (by kernel_rfl) (by kernel_rfl) (by kernel_rfl) (fun _ _ _ h => h) (Or.inl ⟨rfl, ?_⟩) (by assumption) ?_
  rotate_left
  · intro W hSw
    (try dsimp only at hSw)
    go_simp
    try with_reducible rfl
  try simp only [List.getElem_toArray, List.getElem_cons_zero, List.getElem_cons_succ, Act.put, List.setIfInBounds_toArray, List.set_cons_zero, List.set_cons_succ]
  refine wpAnyH_ready (rs := [8]) (by kernel_rfl) (by simp) (AllReadyH.cons rfl (fun K hK => ?_) AllReadyH.nil)
  go_simp
  (with_reducible refine hm47.out.mono ?_)
  rintro e w4 ⟨g, gc, rfl, hgw, hg, hb4⟩
  have hb4' : Below w3.heap.size w3 w4 := ⟨hb4.os, hb4.tape, hb4.output, hb4.size, hb4.block⟩
  obtain ⟨hcp, hbx5, hgr5⟩ := (hbx.out.below hb4').copy 0 mk (by rw [hlm, hp]; omega) ⟨g, 0, none⟩ 288 288 288 gc (by rw [hlm]; rfl) (fun x hx => by
    have hadd : (⟨g, 0, none⟩ : Addr).add x = ⟨g, x, none⟩ := by unfold Addr.add; split <;> simp_all
    rw [hadd, hg.cell x hx]) 3
  rw [hlm] at hcp
  rw [splice_all _ _ (by rw [hlm, hp])] at hcp hbx5 hgr5
  replace hcp := Lib.hid hcp
  refine hK.out _ _ (hS.out _ hb4') (fun hHeld => ?_)
  clear hK
  try simp only [List.getElem_toArray, List.getElem_cons_zero, List.getElem_cons_succ, Act.put, List.setIfInBounds_toArray, List.set_cons_zero, List.set_cons_succ]
  refine wpAnyH_ready (rs := [9]) (by kernel_rfl) (by simp) (AllReadyH.cons rfl (fun K hK => ?_) AllReadyH.nil)
  refine step_copy_run rfl (.tmp 49) (.tmp 55) 65 65 rfl _ _ rfl rfl _ _ hcp.out ?_
  refine hK.out _ _ ?_ (fun hHeld => ?_)
  · show World.cell? _ _ = _
    exact ((ebx3.out.below hb4').grown hgr5 (by simpa using hEb)).get 2 _ rfl
  clear hK
  try simp only [List.getElem_toArray, List.getElem_cons_zero, List.getElem_cons_succ, Act.put, List.setIfInBounds_toArray, List.set_cons_zero, List.set_cons_succ]
  refine wpAnyH_done (by kernel_rfl) ?_ _
  (try dsimp only [NoPanic])
  have h5 := (h3.out.below hb4').grown_out hgr5 hbF
  have hk5 := (hk3.out.then hb4').grown_new hgr5 hbw
  have ebx5 := (ebx3.out.below hb4').grown hgr5 (by simpa using hEb)
  obtain ⟨W5, hW5⟩ : ∃ W5, w4.setRow b (cellsB mk) = W5 := ⟨_, rfl⟩
  rw [hW5] at hbx5 h5 hk5 ebx5 ⊢
  clear hW5 hgr5 hcp hb4 hb4' hg hgw h3 hk3 ebx3 hbx hS hm47
  have hi0 : i < s0.bn := by rw [hbn]; exact hi
  have hj0 : j < s0.pn := by rw [hpn]; exact hj
  have k0 := h5.b0 hi0
  have k1 := h5.pp hi0 hj0
  have kf := (h5.prow i hi0).frozen j
  rw [hpn] at k0
  have hki := h5.fk i hi0
  have hpi := h5.fp i hi0
  dsimp only at k0 k1 kf hki hpi
  have h6 := h5.upd_page i j hi0 hj0 mk hlm b hbx5 hbF.1 hbF.2
  have hk6 := hk5.set_in (L.p i) j (ptr b) hpi
  have ebx6 := ebx5.far ⟨L.p i, j, none⟩ (ptr b) (by show L.p i ≠ E; intro e; rw [e] at hpi; exact hEm hpi)
  unfold ptr at h6 hk6 ebx6
  dsimp only at h6
  obtain ⟨W6, hW6⟩ : ∃ W6, W5.setCell ⟨L.p i, j, none⟩ (.pointer (some ⟨b, 0, none⟩)) = W6 := ⟨_, rfl⟩
  rw [hW6] at h6 hk6 ebx6
  have n2 := h6.b2 (i := i) hi0
  have nf := (h6.blk i hi0).frozen 2
  have h7 := h6.set_next (i := i) hi0 ((j : Int) + 1)
  have hk7 := hk6.set_in (L.k i) 2 (.int .i64 ((j : Int) + 1)) hki
  have ebx7 := ebx6.far ⟨L.k i, 2, none⟩ (.int .i64 ((j : Int) + 1)) (by show L.k i ≠ E; intro e; rw [e] at hki; exact hEm hki)
  have hwr := show IntKind.i64.wrap ((j : Int) + 1) = (j : Int) + 1 by rw [IntKind.wrap_i64]; omega
  obtain ⟨W7, hW7⟩ : ∃ W7, W6.setCell ⟨L.k i, 2, none⟩ (.int .i64 ((j : Int) + 1)) = W7 := ⟨_, rfl⟩
  replace n2 : W6.cell? ⟨L.k i, 2, none⟩ = _ := n2
  replace nf : W6.frozen? ⟨L.k i, 2, none⟩ = false := nf
  replace h7 : ChipR (W6.setCell ⟨L.k i, 2, none⟩ (.int .i64 ((j : Int) + 1))) _ Fr c _ _ := h7
  rw [hW7] at h7 hk7 ebx7
  have e0 := ebx7.get 0 _ rfl
  have e1 := ebx7.get 1 _ rfl
  have e2 := ebx7.get 2 _ rfl
  have hen := Lib.hid (ends_any h7 ea ek (.slice ma ml mc))
  replace h7 := Lib.hid h7
  replace hk7 := Lib.hid hk7
  clear h5 hk5 ebx5 h6 hk6 ebx6 hbx5 ebx7
  go_wp2_with fail
  refine hen.out.mono ?_
  rintro e w8 ⟨rfl, h8, hk8⟩
  replace h8 := Lib.hid h8
  replace hk8 := Lib.hid hk8
  go_wp2_with fail
  go_ret
  rw [hpr.out]
  exact ⟨_, _, rfl, h8.out, hk7.out.trans hk8.out (fun x hx => by rcases hx with hx | rfl; exact .inl hx; exact .inr hbw), fun x hx => by rcases hx with hx | rfl; exact .inl hx; exact .inr hbw⟩
end Go.Proofs.Ytlgjlhgdpiipbaa
