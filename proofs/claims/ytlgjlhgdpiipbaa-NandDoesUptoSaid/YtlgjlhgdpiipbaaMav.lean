import Derived.Test.YtlgjlhgdpiipbaaMau
/- The reference's Erase. -/
namespace Go.Proofs.Ytlgjlhgdpiipbaa
open Go.RowKit
set_option maxRecDepth 100000 in
set_option maxHeartbeats 16000000 in
theorem rerase_any {Fm Fr : Nat → Prop} {c : Nat} {st : Chip} {L : RLay} {w : World} (h : RefR w Fm Fr c st L) (hf : st.fits) (hks : st.kinds) (ho : st.ops < 1000000) (hwe : ∀ i, i < st.bn → 0 ≤ (st.blk i).look.wear ∧ (st.blk i).look.wear < 1000000) (n : Int) :
    Calls Try.prog 52 #[.pointer (some ⟨c, 0, none⟩), .int .i64 n] w (ROpRes Fm Fr c (st.erase n) w) := by
  have hca := can_any h n 0
  by_cases hc0 : st.can n 0 = 0
  case neg =>
    rw [can_erase hc0]
    obtain ⟨a, ha⟩ : ∃ a, st.can n 0 = a := ⟨_, rfl⟩
    rw [ha] at hca hc0 ⊢
    have hne : (a != 0) = true := by simpa using hc0
    have hfin := Lib.hid (show ROpRes Fm Fr c (a, st) w (.returned (.int .i64 a)) w from ⟨Fm, L, rfl, h, Kept.refl _ _, fun x hx => .inl hx⟩)
    replace hca := Lib.hid hca
    clear h hc0 ha
    go_enter Try.func52, Try.ntmps52
    go_wp2_with (go_at_call 57; (with_reducible refine hca.out.mono ?_); rintro e w' ⟨rfl, hw⟩; obtain rfl := hw.symm)
    go_ret
    exact hfin.out
  obtain ⟨has, hbad⟩ := can_zero hc0
  obtain ⟨hoff, hth, i, j0, rfl, hi, hj0, hj⟩ := Chip.asks_ok has
  rw [hc0] at hca
  have c2 := h.c2
  obtain ⟨ba, hba⟩ : ∃ b, L.ba = b := ⟨_, rfl⟩
  rw [hba] at c2
  have hI0 : (0 : Int) ≤ (i : Int) := by omega
  have hI1 : (i : Int) < (st.bn : Int) := by omega
  replace hca := Lib.hid hca
  have e : st.erase (i : Int) = if st.nextEv.1.kind ≠ 0 then ((st.nextEv.2.worn i).torn i st.nextEv.1.mask).judged i st.nextEv.1.kind else (0, (st.nextEv.2.worn i).cleared i) := by
    unfold Chip.erase
    rw [if_neg (by simpa using has)]
    show (if (st.blk i).look.bad = true then _ else _) = _
    rw [if_neg (by rw [show (st.blk i).look.bad = false from hbad]; decide)]
    rfl
  rw [e]
  obtain ⟨n1, n2, n3⟩ := nextEv_blk st
  have hbg := begins_any h ho
  have hmk := nextEv_mask st hf
  obtain ⟨⟨ev, st1⟩, hN⟩ : ∃ N, st.nextEv = N := ⟨_, rfl⟩
  rw [hN] at hbg hmk n1 n2 n3 ⊢
  dsimp only at hmk n1 n2 n3 ⊢
  obtain ⟨eat, ek, em⟩ := ev
  dsimp only at hmk ⊢
  have hwi := hwe i hi
  rw [← n1] at hwi
  have hi1 : i < st1.bn := by rw [n2]; exact hi
  have hbnd1 := h.bnd
  rw [← n2, ← n3] at hbnd1
  obtain ⟨R, hR⟩ : ∃ R, (if ek ≠ 0 then ((st1.worn i).torn i em).judged i ek else (0, (st1.worn i).cleared i)) = R := ⟨_, rfl⟩
  rw [hR]
  replace hR := Lib.hid hR
  replace hbg := Lib.hid hbg
  clear h e has hbad hoff hth hc0 hf hks ho hN hj0 hj hwe
  go_enter Try.func52, Try.ntmps52
  go_wp2_with (go_at_call 57; (with_reducible refine hca.out.mono ?_); rintro e w' ⟨rfl, hw⟩; obtain rfl := hw.symm)
  clear hca c2
  refine hbg.out.mono ?_
  rintro e w2 ⟨v, ev', rfl, ⟨mv, rfl, hmv⟩, h2, hk2⟩
  dsimp only at h2 hmv
  obtain ⟨ma, mc, hme⟩ := (hmv w2 (Same.refl _ _)).len
  obtain ⟨ml, hml⟩ : ∃ x, em.length = x := ⟨_, rfl⟩
  rw [hml] at hme
  subst hme
  obtain ⟨L1, hL1⟩ : ∃ L', ({ L with ev := ev' } : RLay) = L' := ⟨_, rfl⟩
  have hba1 : L1.ba = ba := by rw [← hL1]; exact hba
  rw [hL1] at h2
  have hal : Below w2.heap.size w2 (w2.alloc (.cells #[.int .i64 eat, .int .i64 ek, .slice ma ml mc] 67)) := (Below.refl _ _).alloc (Nat.le_refl _) _
  have hU : EU w Fm Fr c ba w2.heap.size #[.int .i64 eat, .int .i64 ek, .slice ma ml mc] (.slice ma ml mc) em (w2.alloc (.cells #[.int .i64 eat, .int .i64 ek, .slice ma ml mc] 67)) st1 Fm L1 :=
    ⟨h2.below hal, hba1, Box.new w2 67 _, h2.new (Nat.le_refl _), hk2.then hal, fun x hx => .inl hx, fun W' hs => hmv W' (Same.trans (R := Fr) ⟨fun b hb => hal.block b (h2.ltr b hb), hal.size⟩ hs)⟩
  replace hU := Lib.hid hU
  clear hbg hk2 hal h2 hmv hL1 hba1 hba
  go_upto_region 6 with fail
  obtain ⟨W3, hW3⟩ : ∃ W, w2.alloc (.cells #[.int .i64 eat, .int .i64 ek, .slice ma ml mc] 67) = W := ⟨_, rfl⟩
  obtain ⟨E, hE⟩ : ∃ E, w2.heap.size = E := ⟨_, rfl⟩
  rw [hW3, hE] at hU
  rw [hW3]
  rw [hE]
  clear hW3 hE
  replace hU := hU.out
  have b1 := hU.bcell hi1 1 _ rfl
  have f1 := hU.frozen (i * 4 + 1)
  have hV := hU.set_look hi1 1 (by decide) (.int .i64 ((st1.blk i).look.wear + 1)) { (st1.blk i).look with wear := (st1.blk i).look.wear + 1 } (fun L => by unfold rblkL; rw [setLook_look, if_pos rfl]; rfl)
  rw [show st1.setLook i { (st1.blk i).look with wear := (st1.blk i).look.wear + 1 } = st1.worn i from rfl] at hV
  obtain ⟨wr, hwr⟩ : ∃ x, (st1.blk i).look.wear = x := ⟨_, rfl⟩
  rw [hwr] at b1 hV hwi
  obtain ⟨s2, hs2⟩ : ∃ s, st1.worn i = s := ⟨_, rfl⟩
  have hs2bn : s2.bn = st1.bn := by rw [← hs2]; rfl
  have hs2pn : s2.pn = st1.pn := by rw [← hs2]; rfl
  rw [hs2] at hV hR
  have hi2 : i < s2.bn := by rw [hs2bn]; exact hi1
  have y1 := hV.box.get 1 _ rfl
  have hw0 : -1 < wr + 1 := by omega
  have hw1 : wr + 1 < 2000000 := by omega
  rw [← hs2bn, ← hs2pn] at hbnd1
  replace hV := Lib.hid hV
  replace hU := Lib.hid hU
  clear hwr hs2 hU hs2bn
  go_upto_if 34 with fail
  obtain ⟨W4, hW4⟩ : ∃ W, W3.setCell ⟨ba, i * 4 + 1, none⟩ (.int .i64 (wr + 1)) = W := ⟨_, rfl⟩
  rw [hW4] at hV y1 ⊢
  clear hW4 b1 f1
  obtain ⟨L2, hV⟩ : ∃ L', EU w Fm Fr c ba E #[.int .i64 eat, .int .i64 ek, .slice ma ml mc] (.slice ma ml mc) em W4 s2 Fm L' := ⟨_, hV.out⟩
  by_cases hz : ek = 0
  · have z1 : (ek != 0) = false := by simp [hz]
    have hR0 : (0, s2.cleared i) = R := by rw [← hR.out, if_neg (by simpa using hz)]
    clear hR hz
    replace hV := Lib.hid hV
    go_upto_region 13 with fail
    clear y1 z1
    go_loopw [8] (fun x wr => ∃ (k : Nat) (Fn : Nat → Prop) (L' : RLay), k ≤ s2.pn ∧ x = .int .i64 k ∧ EU w Fm Fr c ba E #[.int .i64 eat, .int .i64 ek, .slice ma ml mc] (.slice ma ml mc) em wr (s2.wipeTo i k) Fn L') (fun x _ => s2.pn - (intOf x).toNat)
    case atStart => exact ⟨0, _, _, by omega, rfl, by rw [wipeTo_zero]; exact hV.out⟩
    case round =>
      clear hV
      obtain ⟨k, Fn, Lk, hk, rfl, hK⟩ := hrel
      have g1 : wr.cell? ⟨c, 1, none⟩ = some (.int .i64 (s2.pn : Int)) := hK.ref.chip.get 1 _ rfl
      by_cases hlt : k < s2.pn
      · have hD := hK.drew
        have hI0 : (0 : Int) ≤ (k : Int) := by omega
        have hI1 : (k : Int) < (s2.pn : Int) := by omega
        have hkk : k < (s2.wipeTo i k).pn := hlt
        have hii : i < (s2.wipeTo i k).bn := hi2
        obtain ⟨pi, hpi⟩ : ∃ x, Lk.p i = x := ⟨_, rfl⟩
        obtain ⟨pci, hpci⟩ : ∃ x, Lk.pcap i = x := ⟨_, rfl⟩
        have hS0 : (fun W => W.cell? ⟨ba, i * 4, none⟩ = some (.slice (some ⟨pi, 0, none⟩) s2.pn pci)) wr.drew := by have := hD.bcell hii 0 _ rfl; rw [hpi, hpci] at this; exact this
        have hall : ∀ w4, Below wr.drew.heap.size wr.drew w4 → (fun W => W.cell? ⟨ba, i * 4, none⟩ = some (.slice (some ⟨pi, 0, none⟩) s2.pn pci)) w4 ∧ ∃ w5, (storeVar 48 ⟨pi, k * 288, none⟩ (pgV (rep 288 255))).run Try.prog w4 = .ok () w5 ∧ (fun W => W.cell? ⟨ba, i * 4, none⟩ = some (.slice (some ⟨pi, 0, none⟩) s2.pn pci)) w5 ∧ EU w Fm Fr c ba E #[.int .i64 eat, .int .i64 ek, .slice ma ml mc] (.slice ma ml mc) em w5 (s2.wipeTo i (k + 1)) Fn (Lk.setPage i k (rep 288 255)) := fun w4 hb4 => by
          have h4 := hD.below hb4
          have hst := h4.ref.store_pg hii hkk (rep 288 255) (rep_len _ _)
          have h5 := h4.set_page hii hkk (rep 288 255) (rep_len _ _)
          have hc4 := h4.bcell hii 0 _ rfl
          have hc5 := h5.bcell (i := i) hii 0 _ rfl
          rw [wipeTo_succ] at h5
          rw [hpi] at hst h5 hc4 hc5
          rw [hpci] at hc4
          refine ⟨hc4, _, hst, ?_, h5⟩
          have e1 : (Lk.setPage i k (rep 288 255)).p i = pi := hpi
          have e2 : (Lk.setPage i k (rep 288 255)).pcap i = pci := hpci
          rw [e1, e2] at hc5
          exact hc5
        replace hall := Lib.hid hall
        clear hK hD
        go_upto_region 15 with fail
        clear g1
        refine wp_region_noPanic ?_
        refine wp_region_held_drew (S := fun W => W.cell? ⟨ba, i * 4, none⟩ = some (.slice (some ⟨pi, 0, none⟩) s2.pn pci)) (by kernel_rfl) (hS0) (fun hHeld => ?_)
        refine wpAnyH_take (i := 0) (v := ?_) rfl (by kernel_rfl) (by kernel_rfl) (by kernel_rfl) (fun _ _ _ h => h) (Or.inl ⟨rfl, ?_⟩) (by assumption) ?_
        rotate_left
        · intro W hSw
          (try dsimp only at hSw)
          go_simp
          try with_reducible rfl
        try simp only [List.getElem_toArray, List.getElem_cons_zero, List.getElem_cons_succ, Act.put, List.setIfInBounds_toArray, List.set_cons_zero, List.set_cons_succ]
        refine wpAnyH_take (i := 1) (v := ?_) rfl (by kernel_rfl) (by kernel_rfl) (by kernel_rfl) (fun _ _ _ h => h) (Or.inl ⟨rfl, ?_⟩) (by assumption) ?_
        rotate_left
        · intro W hSw
          (try dsimp only at hSw)
          go_simp
          try with_reducible rfl
        try simp only [List.getElem_toArray, List.getElem_cons_zero, List.getElem_cons_succ, Act.put, List.setIfInBounds_toArray, List.set_cons_zero, List.set_cons_succ]
        refine wpAnyH_take (i := 2) (v := ?_) rfl (by kernel_rfl) (by kernel_rfl) (by kernel_rfl) (fun _ _ _ h => h) (Or.inl ⟨rfl, ?_⟩) (by assumption) ?_
        rotate_left
        · intro W hSw
          (try dsimp only at hSw)
          go_simp
          try with_reducible rfl
        try simp only [List.getElem_toArray, List.getElem_cons_zero, List.getElem_cons_succ, Act.put, List.setIfInBounds_toArray, List.set_cons_zero, List.set_cons_succ]
        refine wpAnyH_take (i := 3) (v := ?_) rfl (by kernel_rfl) (by kernel_rfl) (by kernel_rfl) (fun _ _ _ h => h) (Or.inl ⟨rfl, ?_⟩) (by assumption) ?_
        rotate_left
        · intro W hSw
          (try dsimp only at hSw)
          go_simp
          try with_reducible rfl
        try simp only [List.getElem_toArray, List.getElem_cons_zero, List.getElem_cons_succ, Act.put, List.setIfInBounds_toArray, List.set_cons_zero, List.set_cons_succ]
        refine wpAnyH_take (i := 4) (v := ?_) rfl (by kernel_rfl) (by kernel_rfl) (by kernel_rfl) (fun _ _ _ h => h) (Or.inl ⟨rfl, ?_⟩) (by assumption) ?_
        rotate_left
        · intro W hSw
          (try dsimp only at hSw)
          go_simp
          try with_reducible rfl
        try simp only [List.getElem_toArray, List.getElem_cons_zero, List.getElem_cons_succ, Act.put, List.setIfInBounds_toArray, List.set_cons_zero, List.set_cons_succ]
        refine wpAnyH_ready (rs := [5]) (by kernel_rfl) (by simp) (AllReadyH.cons rfl (fun K hK => ?_) AllReadyH.nil)
        go_simp
        refine (blank_any _).mono ?_
        rintro e w4 ⟨rfl, hb4⟩
        obtain ⟨hS4, w5, hst, hS5, h5⟩ := hall.out w4 hb4
        replace h5 := Lib.hid h5
        clear hall hb4
        refine hK.out _ _ (hS4) (fun hHeld => ?_)
        clear hK
        try simp only [List.getElem_toArray, List.getElem_cons_zero, List.getElem_cons_succ, Act.put, List.setIfInBounds_toArray, List.set_cons_zero, List.set_cons_succ]
        refine wpAnyH_take (i := 6) (v := ?_) rfl (by kernel_rfl) (by kernel_rfl) (by kernel_rfl) (fun _ _ _ h => h) (Or.inl ⟨rfl, ?_⟩) (by assumption) ?_
        rotate_left
        · intro W hSw
          (try dsimp only at hSw)
          go_simp
          try with_reducible rfl
        try simp only [List.getElem_toArray, List.getElem_cons_zero, List.getElem_cons_succ, Act.put, List.setIfInBounds_toArray, List.set_cons_zero, List.set_cons_succ]
        refine wpAnyH_ready (rs := [7]) (by kernel_rfl) (by simp) (AllReadyH.cons rfl (fun K hK => ?_) AllReadyH.nil)
        refine step_store_var rfl 48 (.tmp 79) (.tmp 78) rfl _ rfl _ rfl hst ?_
        refine hK.out _ _ (hS5) (fun hHeld => ?_)
        clear hK
        try simp only [List.getElem_toArray, List.getElem_cons_zero, List.getElem_cons_succ, Act.put, List.setIfInBounds_toArray, List.set_cons_zero, List.set_cons_succ]
        refine wpAnyH_done (by kernel_rfl) ?_ _
        (try dsimp only [NoPanic])
        go_wp2_with fail
        go_roundw
        case rel => exact ⟨k + 1, by omega, by go_num, Fn, Lk.setPage i k (rep 288 255), h5.out⟩
        case measure => simp [intOf]; omega
      · obtain rfl : k = s2.pn := by omega
        have hII : ¬ ((s2.pn : Int) < (s2.pn : Int)) := by omega
        have hii : i < (s2.wipeTo i s2.pn).bn := hi2
        have b2 := hK.bcell hii 2 _ rfl
        have f2 := hK.frozen (i * 4 + 2)
        have hE2 := hK.set_look hii 2 (by decide) (.int .i64 0) { ((s2.wipeTo i s2.pn).blk i).look with next := 0 } (fun L => by unfold rblkL; rw [setLook_look, if_pos rfl]; rfl)
        rw [← wipeTo_all] at hE2
        obtain ⟨nx, hnx⟩ : ∃ x, ((s2.wipeTo i s2.pn).blk i).look.next = x := ⟨_, rfl⟩
        rw [hnx] at b2
        have hfin := Lib.hid (show ROpRes Fm Fr c R w (.returned (.int .i64 0)) _ from ⟨Fn, _, by rw [← hR0], by rw [← hR0]; exact hE2.ref, hE2.kept, hE2.fn⟩)
        clear hK hE2 hnx
        go_wp2_with fail
        go_ret
        exact hfin.out
  · have z1 : (ek != 0) = true := by simpa using hz
    have hR0 : (s2.torn i em).judged i ek = R := by rw [← hR.out, if_pos hz]
    clear hR
    have hD := hV.drew
    have hms := hD.masked hi2 (by omega)
    have d0 := hD.bcell hi2 0 _ rfl
    have y2 : W4.drew.cell? ⟨E, 2, none⟩ = some (.slice ma ml mc) := hD.box.get 2 _ rfl
    obtain ⟨pi, hpi⟩ : ∃ x, L2.p i = x := ⟨_, rfl⟩
    obtain ⟨pci, hpci⟩ : ∃ x, L2.pcap i = x := ⟨_, rfl⟩
    rw [hpi, hpci] at hms d0
    replace d0 : W4.drew.cell? ⟨ba, i * 4, none⟩ = some (.slice (some ⟨pi, 0, none⟩) s2.pn pci) := d0
    replace hms := Lib.hid hms
    clear hV hD hs2pn n3
    go_upto_region 8 with fail
    clear y1
    refine wp_region_noPanic ?_
    refine wp_region_held_drew (S := fun W => W.cell? ⟨E, 2, none⟩ = some (.slice ma ml mc)) (by kernel_rfl) (y2) (fun hHeld => ?_)
    refine wpAnyH_take (i := 0) (v := ?_) rfl (by kernel_rfl) (by kernel_rfl) (by kernel_rfl) (fun _ _ _ h => h) (Or.inl ⟨rfl, ?_⟩) (by assumption) ?_
    rotate_left
    · intro W hSw
      (try dsimp only at hSw)
      go_simp
      try with_reducible rfl
    try simp only [List.getElem_toArray, List.getElem_cons_zero, List.getElem_cons_succ, Act.put, List.setIfInBounds_toArray, List.set_cons_zero, List.set_cons_succ]
    refine wpAnyH_take (i := 1) (v := ?_) rfl (by kernel_rfl) (by kernel_rfl) (by kernel_rfl) (fun _ _ _ h => h) (Or.inl ⟨rfl, ?_⟩) (by assumption) ?_
    rotate_left
    · intro W hSw
      (try dsimp only at hSw)
      go_simp
      try with_reducible rfl
    try simp only [List.getElem_toArray, List.getElem_cons_zero, List.getElem_cons_succ, Act.put, List.setIfInBounds_toArray, List.set_cons_zero, List.set_cons_succ]
    refine wpAnyH_take (i := 2) (v := ?_) rfl (by kernel_rfl) (by kernel_rfl) (by kernel_rfl) (fun _ _ _ h => h) (Or.inl ⟨rfl, ?_⟩) (by assumption) ?_
    rotate_left
    · intro W hSw
      (try dsimp only at hSw)
      go_simp
      try with_reducible rfl
    try simp only [List.getElem_toArray, List.getElem_cons_zero, List.getElem_cons_succ, Act.put, List.setIfInBounds_toArray, List.set_cons_zero, List.set_cons_succ]
    refine wpAnyH_take (i := 3) (v := ?_) rfl (by kernel_rfl) (by kernel_rfl) (by kernel_rfl) (fun _ _ _ h => h) (Or.inl ⟨rfl, ?_⟩) (by assumption) ?_
    rotate_left
    · intro W hSw
      (try dsimp only at hSw)
      go_simp
      try with_reducible rfl
    try simp only [List.getElem_toArray, List.getElem_cons_zero, List.getElem_cons_succ, Act.put, List.setIfInBounds_toArray, List.set_cons_zero, List.set_cons_succ]
    refine wpAnyH_take (i := 5) (v := ?_) rfl (by kernel_rfl) (by kernel_rfl) (by kernel_rfl) (fun _ _ _ h => h) (Or.inl ⟨rfl, ?_⟩) (by assumption) ?_
    rotate_left
    · intro W hSw
      (try dsimp only at hSw)
      go_simp
      try with_reducible rfl
    try simp only [List.getElem_toArray, List.getElem_cons_zero, List.getElem_cons_succ, Act.put, List.setIfInBounds_toArray, List.set_cons_zero, List.set_cons_succ]
    refine wpAnyH_take (i := 6) (v := ?_) rfl (by kernel_rfl) (by kernel_rfl) (by kernel_rfl) (fun _ _ _ h => h) (Or.inl ⟨rfl, ?_⟩) (by assumption) ?_
    rotate_left
    · intro W hSw
      (try dsimp only at hSw)
      go_simp
      try with_reducible rfl
    try simp only [List.getElem_toArray, List.getElem_cons_zero, List.getElem_cons_succ, Act.put, List.setIfInBounds_toArray, List.set_cons_zero, List.set_cons_succ]
    refine wpAnyH_ready (rs := [4]) (by kernel_rfl) (by simp) (AllReadyH.cons rfl (fun K hK => ?_) AllReadyH.nil)
    go_simp
    refine hK.out _ _ (y2) (fun hHeld => ?_)
    clear hK
    try simp only [List.getElem_toArray, List.getElem_cons_zero, List.getElem_cons_succ, Act.put, List.setIfInBounds_toArray, List.set_cons_zero, List.set_cons_succ]
    refine wpAnyH_ready (rs := [7]) (by kernel_rfl) (by simp) (AllReadyH.cons rfl (fun K hK => ?_) AllReadyH.nil)
    go_simp
    refine hms.out.mono ?_
    rintro e w5 ⟨va, vn, vc, Fn', L', rfl, h5, f5, h6⟩
    have d5 := h5.bcell hi2 0 _ rfl
    replace d5 : w5.cell? ⟨ba, i * 4, none⟩ = some _ := d5
    have z2 := h5.box.get 2 _ rfl
    have z6 := h6.box.get 2 _ rfl
    replace h6 := Lib.hid h6
    clear h5 d0 y2
    refine hK.out _ _ (z2) (fun hHeld => ?_)
    clear hK
    try simp only [List.getElem_toArray, List.getElem_cons_zero, List.getElem_cons_succ, Act.put, List.setIfInBounds_toArray, List.set_cons_zero, List.set_cons_succ]
    refine wpAnyH_take (i := 8) (v := ?_) rfl (by kernel_rfl) (by kernel_rfl) (by kernel_rfl) (fun _ _ _ h => h) (Or.inl ⟨rfl, ?_⟩) (by assumption) ?_
    rotate_left
    · intro W hSw
      (try dsimp only at hSw)
      go_simp
      try with_reducible rfl
    try simp only [List.getElem_toArray, List.getElem_cons_zero, List.getElem_cons_succ, Act.put, List.setIfInBounds_toArray, List.set_cons_zero, List.set_cons_succ]
    refine wpAnyH_take (i := 9) (v := ?_) rfl (by kernel_rfl) (by kernel_rfl) (by kernel_rfl) (fun _ _ _ h => h) (Or.inl ⟨rfl, ?_⟩) (by assumption) ?_
    rotate_left
    · intro W hSw
      (try dsimp only at hSw)
      go_simp
      try with_reducible rfl
    try simp only [List.getElem_toArray, List.getElem_cons_zero, List.getElem_cons_succ, Act.put, List.setIfInBounds_toArray, List.set_cons_zero, List.set_cons_succ]
    refine wpAnyH_ready (rs := [10]) (by kernel_rfl) (by simp) (AllReadyH.cons rfl (fun K hK => ?_) AllReadyH.nil)
    go_simp
    refine hK.out _ _ (z6) (fun hHeld => ?_)
    clear hK
    try simp only [List.getElem_toArray, List.getElem_cons_zero, List.getElem_cons_succ, Act.put, List.setIfInBounds_toArray, List.set_cons_zero, List.set_cons_succ]
    clear d5 z2 z6 f5
    refine wpAnyH_done (by kernel_rfl) ?_ _
    (try dsimp only [NoPanic])
    obtain ⟨W6, hW6⟩ : ∃ W, w5.setCell ⟨ba, i * 4, none⟩ (.slice va vn vc) = W := ⟨_, rfl⟩
    rw [hW6] at h6 ⊢
    clear hW6 hms
    replace h6 := h6.out
    obtain ⟨s3, hs3⟩ : ∃ s, s2.setPages i (s2.laid i (mask (allOf (s2.blk i).pages s2.pn) em)) = s := ⟨_, rfl⟩
    have hto : s2.torn i em = s3.setLook i { (s3.blk i).look with next := s2.pn } := by rw [← hs3]; rfl
    rw [hs3] at h6
    have hi3 : i < s3.bn := by rw [← hs3]; exact hi2
    have hpn3 : s3.pn = s2.pn := by rw [← hs3]; rfl
    have g1 : W6.cell? ⟨c, 1, none⟩ = some (.int .i64 (s2.pn : Int)) := by rw [← hpn3]; exact h6.ref.chip.get 1 _ rfl
    obtain ⟨nx, hnx⟩ : ∃ x, (s3.blk i).look.next = x := ⟨_, rfl⟩
    have b2 := h6.bcell hi3 2 (.int .i64 nx) (by rw [← hnx]; rfl)
    have f2 := h6.frozen (i * 4 + 2)
    have h7 := h6.set_look hi3 2 (by decide) (.int .i64 (s2.pn : Int)) { (s3.blk i).look with next := s2.pn } (fun L => by unfold rblkL; rw [setLook_look, if_pos rfl]; rfl)
    rw [← hto] at h7
    replace h7 := Lib.hid h7
    clear h6 hto hs3 hnx
    go_upto_region 10 with fail
    obtain ⟨W7, hW7⟩ : ∃ W, W6.setCell ⟨ba, i * 4 + 2, none⟩ (.int .i64 (s2.pn : Int)) = W := ⟨_, rfl⟩
    rw [hW7] at h7 ⊢
    clear hW7 g1 b2 f2
    replace h7 := h7.out
    have hju := judged_eq (s2.torn i em) i ek
    obtain ⟨s4, hs4⟩ : ∃ s, s2.torn i em = s := ⟨_, rfl⟩
    have hi4 : i < s4.bn := by rw [← hs4]; exact hi2
    rw [hs4] at h7 hju hR0
    have y1 := h7.box.get 1 _ rfl
    obtain ⟨bx, hbx⟩ : ∃ x, (s4.blk i).look.bad = x := ⟨_, rfl⟩
    have b3 := h7.bcell hi4 3 (.bool bx) (by rw [← hbx]; rfl)
    have f3 := h7.frozen (i * 4 + 3)
    have h8 := h7.set_look hi4 3 (by decide) (.bool (ek == 1)) { (s4.blk i).look with bad := ek == 1 } (fun L => by unfold rblkL; rw [setLook_look, if_pos rfl]; rfl)
    obtain ⟨s5, hs5⟩ : ∃ s, s4.setLook i { (s4.blk i).look with bad := ek == 1 } = s := ⟨_, rfl⟩
    rw [hs5] at h8 hju
    have e0 := h8.box.get 0 _ rfl
    have e1 := h8.box.get 1 _ rfl
    have e2 := h8.box.get 2 _ rfl
    have hends := Lib.hid (rends_any h8.ref eat ek (.slice ma ml mc))
    have hfin := Lib.hid (And.intro h8.kept h8.fn)
    clear h7 h8 hs4 hs5 hbx
    go_wp2_with fail
    refine hends.out.mono ?_
    rintro e w9 ⟨rfl, hR9, hk9⟩
    have hlast := Lib.hid (show ROpRes Fm Fr c R w (.returned (.int .i64 (s5.ends ek).1)) w9 from ⟨_, _, by rw [← hR0, hju], by rw [← hR0, hju]; exact hR9, hfin.out.1.trans hk9 hfin.out.2, hfin.out.2⟩)
    clear hR9 hk9 hends hfin
    go_wp2_with fail
    go_ret
    exact hlast.out
end Go.Proofs.Ytlgjlhgdpiipbaa
