import Derived.Test.YtlgjlhgdpiipbaaMap
/- The reference's begins. -/
namespace Go.Proofs.Ytlgjlhgdpiipbaa
open Go.RowKit
section
variable {W W' : World} {Fm Fr : Nat → Prop} {c : Nat} {st : Chip} {L : RLay}
theorem RefR.fr_ne (h : RefR W Fm Fr c st L) {b : Nat} (hb : Fm b) : ∀ x, Fr x → x < W.heap.size ∧ x ≠ b := fun x hx => ⟨h.ltr x hx, fun e => by subst e; exact h.disj x hb hx⟩
theorem RefR.set_out (h : RefR W Fm Fr c st L) (b j : Nat) (v : Value) (hb : ¬ Fm b ∧ ¬ Fr b) : RefR (W.setCell ⟨b, j, none⟩ v) Fm Fr c st L :=
  h.same ⟨fun x hx => Below.heap_setCell W ⟨b, j, none⟩ v x (fun e => by subst e; rcases hx with hx | hx; exact hb.1 hx; exact hb.2 hx), by simp [World.setCell]⟩
theorem RefR.new (h : RefR W Fm Fr c st L) {b : Nat} (hb : W.heap.size ≤ b) : ¬ Fm b ∧ ¬ Fr b := ⟨fun hx => by have := h.ltm b hx; omega, fun hx => by have := h.ltr b hx; omega⟩
theorem RefR.same_set (h : RefR W Fm Fr c st L) (b j : Nat) (v : Value) (hb : Fm b) : Same Fr W (W.setCell ⟨b, j, none⟩ v) := same_grown (grown_set1 W b j v) (h.fr_ne hb)
theorem RefR.set_evs (h : RefR W Fm Fr c st L) (v : Value) (evs : List Ev) (hv : EvS W Fr v evs) : RefR (W.setCell ⟨c, 3, none⟩ v) Fm Fr c { st with evs := evs } { L with ev := v } :=
  h.upd_chip (W' := W.setCell ⟨c, 3, none⟩ v) v evs st.ops st.off (h.chip.set 3 v) (grown_set1 W c 3 _) (hv.same (h.same_set c 3 _ h.fc)) h.opsb
end
set_option maxRecDepth 100000 in
theorem res58 {W : World} {b : Nat} {x y : Int} {mv : Value} (h : Box W b 67 #[.int .i64 x, .int .i64 y, mv]) {tmps : Array Value} (h2 : tmps.getD 2 undef = .pointer (some ⟨b, 0, none⟩)) :
    (results Try.f58 tmps).run Try.prog W = .ok (.agg #[.int .i64 x, .int .i64 y, mv]) W := by
  have d0 := h.get 0 _ rfl
  have d1 := h.get 1 _ rfl
  have d2 := h.get 2 _ rfl
  simp at h2
  simp [results, Try.results58, go_sem, h2, d0, d1, d2]
/-- What next leaves. -/
def RNextRes (Fm Fr : Nat → Prop) (c : Nat) (N : Ev × Chip) (L : RLay) (w : World) (e : Ending) (w' : World) : Prop :=
  ∃ v ev', e = .returned v ∧ EvVal w' Fr N.1 v ∧ RefR w' Fm Fr c N.2 { L with ev := ev' } ∧ Kept Fm w w'
set_option maxRecDepth 100000 in
set_option maxHeartbeats 4000000 in
theorem begins_any {Fm Fr : Nat → Prop} {c : Nat} {st : Chip} {L : RLay} {w : World} (h : RefR w Fm Fr c st L) (ho : st.ops < 1000000) : Calls Try.prog 58 #[.pointer (some ⟨c, 0, none⟩)] w (RNextRes Fm Fr c st.nextEv L w) := by
  have hb := (Below.refl w.heap.size w).alloc (Nat.le_refl _) (.cells #[.int .i64 0, .int .i64 0, .slice none 0 0] 67)
  have h' := h.below hb
  have hcl := h.chip.lt
  have hout := h.new (Nat.le_refl w.heap.size)
  have hk0 : Kept Fm w _ := Kept.of_below hb
  have bx := Box.new w 67 #[.int .i64 0, .int .i64 0, .slice none 0 0]
  obtain ⟨W0, hW0⟩ : ∃ W0, w.alloc (.cells #[.int .i64 0, .int .i64 0, .slice none 0 0] 67) = W0 := ⟨_, rfl⟩
  rw [hW0] at h' hk0 bx
  have h4 := h'.c4
  have f4 := h'.chip.frozen 4
  have hob := h'.opsb
  have h1 := h'.set_ops (st.ops + 1) (by omega)
  have hk1 := hk0.trans (Kept.of_set (W := W0) c 4 (.int .i64 (st.ops + 1)) h'.fc) (fun b hb => .inl hb)
  have bx1 := bx.far ⟨c, 4, none⟩ (.int .i64 (st.ops + 1)) (by show c ≠ w.heap.size; omega)
  obtain ⟨W1, hW1⟩ : ∃ W1, W0.setCell ⟨c, 4, none⟩ (.int .i64 (st.ops + 1)) = W1 := ⟨_, rfl⟩
  rw [hW1] at h1 hk1 bx1
  have e3 := h1.c3
  have e4 := h1.c4
  have hes := h1.evs
  dsimp only at e3 e4 hes
  have hnil := @Chip.nextEv_nil st
  have hno := @Chip.nextEv_no st
  have hyes := @Chip.nextEv_yes st
  obtain ⟨N, hN⟩ : ∃ N, st.nextEv = N := ⟨_, rfl⟩
  rw [hN] at hnil hno hyes ⊢
  clear hN
  obtain ⟨es, hese⟩ : ∃ es, st.evs = es := ⟨_, rfl⟩
  rw [hese] at hes hnil hno hyes
  have hwr := show IntKind.i64.wrap (st.ops + 1) = st.ops + 1 by rw [IntKind.wrap_i64]; omega
  replace h1 := Lib.hid h1
  replace hk1 := Lib.hid hk1
  clear h h' hk0 bx hb
  go_enter Try.func58, Try.ntmps58
  go_upto_region 2 with fail
  clear hW1 hwr h4 f4 hW0
  rcases es with _ | ⟨e, r⟩
  · obtain ⟨a, cap, hv, _⟩ := hes
    rw [hv] at e3
    simp only [List.length_nil] at e3
    obtain rfl := hnil rfl
    clear hnil hno hyes hv
    go_quiet (fail)
    have hbl := below_drewN W1 nq
    have h2 := h1.out.below hbl
    have hk2 := hk1.out.then hbl
    have b0 := bx1.drewN nq
    obtain ⟨W2, hW2⟩ : ∃ W2, W1.drewN nq = W2 := ⟨_, rfl⟩
    rw [hW2] at h2 hk2 b0 ⊢
    clear hbl hW2 e3 e4 bx1 h1 hk1
    have x0 := b0.get 0 _ rfl
    have x1 := b0.get 1 _ rfl
    have x2 := b0.get 2 _ rfl
    have g0 := b0.frozen 0
    have g1 := b0.frozen 1
    have g2 := b0.frozen 2
    have h9 := Lib.hid (((h2.set_out w.heap.size 0 (.int .i64 0) hout).set_out w.heap.size 1 (.int .i64 0) hout).set_out w.heap.size 2 (.slice none 0 0) hout)
    have hk9 := Lib.hid (((hk2.set_new w.heap.size 0 (.int .i64 0) (Nat.le_refl _)).set_new w.heap.size 1 (.int .i64 0) (Nat.le_refl _)).set_new w.heap.size 2 (.slice none 0 0) (Nat.le_refl _))
    have b9 := Lib.hid (((b0.set 0 (.int .i64 0)).set 1 (.int .i64 0)).set 2 (.slice none 0 0))
    clear h2 hk2 b0
    go_wp2_with fail
    exact bodyPost_ret (res58 b9.out rfl) rfl ⟨_, L.ev, rfl, evVal_zero _ _, by have := h9.out; rw [hese] at this; exact this, hk9.out⟩
  · obtain ⟨a, cap, hv, hcap, hat⟩ := hes
    have hes' : EvS W1 Fr L.ev (e :: r) := ⟨a, cap, hv, hcap, hat⟩
    obtain ⟨eb, eo, mv, rfl, heb, hRb, m0, m1, m2, hmv⟩ := hat 0 e rfl
    obtain ⟨ma, mc, hmve⟩ := (hmv W1 (Same.refl _ _)).len
    subst hmve
    rw [hv] at e3 hes'
    simp only [List.length_cons] at e3 hes' hcap
    simp only [Nat.zero_mul, Nat.add_zero] at m0 m1 m2
    clear hat
    have hI : (0 : Int) < (r.length : Int) + 1 := by omega
    by_cases hat : e.at_ = st.ops + 1
    case neg =>
      have hb1 : (e.at_ == st.ops + 1) = false := by simpa using hat
      obtain rfl := hno rfl hat
      clear hnil hno hyes hv hes' hmv hat
      go_quiet (fail)
      have hbl := below_drewN W1 nq
      have h2 := h1.out.below hbl
      have hk2 := hk1.out.then hbl
      have b0 := bx1.drewN nq
      obtain ⟨W2, hW2⟩ : ∃ W2, W1.drewN nq = W2 := ⟨_, rfl⟩
      rw [hW2] at h2 hk2 b0 ⊢
      clear hbl hW2 e3 e4 bx1 h1 hk1 m0 m1 m2
      have x0 := b0.get 0 _ rfl
      have x1 := b0.get 1 _ rfl
      have x2 := b0.get 2 _ rfl
      have g0 := b0.frozen 0
      have g1 := b0.frozen 1
      have g2 := b0.frozen 2
      have h9 := Lib.hid (((h2.set_out w.heap.size 0 (.int .i64 0) hout).set_out w.heap.size 1 (.int .i64 0) hout).set_out w.heap.size 2 (.slice none 0 0) hout)
      have hk9 := Lib.hid (((hk2.set_new w.heap.size 0 (.int .i64 0) (Nat.le_refl _)).set_new w.heap.size 1 (.int .i64 0) (Nat.le_refl _)).set_new w.heap.size 2 (.slice none 0 0) (Nat.le_refl _))
      have b9 := Lib.hid (((b0.set 0 (.int .i64 0)).set 1 (.int .i64 0)).set 2 (.slice none 0 0))
      clear h2 hk2 b0
      go_wp2_with fail
      exact bodyPost_ret (res58 b9.out rfl) rfl ⟨_, L.ev, rfl, evVal_zero _ _, by have := h9.out; rw [hese] at this; exact this, hk9.out⟩
    case pos =>
      have hb1 : (e.at_ == st.ops + 1) = true := by simpa using hat
      obtain rfl := hyes rfl hat
      clear hnil hno hyes hat
      replace hv := Lib.hid hv
      obtain ⟨S, hS, hSe⟩ := evs_tail hes' (by omega)
      obtain ⟨sa, sc, hSf⟩ : ∃ sa sc, S = .slice sa r.length sc := by obtain ⟨a, c, h, _⟩ := hSe; exact ⟨a, c, h⟩
      subst hSf
      go_quiet (fail)
      have hbl := below_drewN W1 nq
      have h2 := h1.out.below hbl
      have hk2 := hk1.out.then hbl
      have b0 := bx1.drewN nq
      have hsm : Same Fr W1 (W1.drewN nq) := ⟨fun x hx => hbl.block x (h1.out.ltr x hx), hbl.size⟩
      have hmv2 : ∀ W2, Same Fr (W1.drewN nq) W2 → RdB W2 (.slice ma e.mask.length mc) e.mask := fun W2 h => hmv W2 (hsm.trans h)
      have hS2 := hSe.same hsm
      have n0 : (W1.drewN nq).cell? ⟨eb, eo, none⟩ = _ := m0
      have n1 : (W1.drewN nq).cell? ⟨eb, eo + 1, none⟩ = _ := m1
      have n2 : (W1.drewN nq).cell? ⟨eb, eo + 2, none⟩ = _ := m2
      obtain ⟨W2, hW2⟩ : ∃ W2, W1.drewN nq = W2 := ⟨_, rfl⟩
      rw [hW2] at h2 hk2 b0 hmv2 hS2 n0 n1 n2 ⊢
      clear hbl hW2 e3 e4 bx1 h1 hk1 m0 m1 m2 hes' hmv hsm hSe heb
      have k3 := h2.c3
      (try dsimp only at k3)
      rw [hv.out] at k3
      have hba := (Below.refl W2.heap.size W2).alloc (Nat.le_refl _) (.cells #[.int .i64 e.at_, .int .i64 e.kind, (.slice ma e.mask.length mc)] 67)
      have h3 := h2.below hba
      have hk3 := hk2.then hba
      have b3 := b0.below hba
      have x3 := Box.new W2 67 #[.int .i64 e.at_, .int .i64 e.kind, (.slice ma e.mask.length mc)]
      have hsm2 : Same Fr W2 (W2.alloc (.cells #[.int .i64 e.at_, .int .i64 e.kind, (.slice ma e.mask.length mc)] 67)) := ⟨fun x hx => hba.block x (h2.ltr x hx), hba.size⟩
      have hS3 := hS2.same hsm2
      have hW2s := b0.lt
      obtain ⟨W3, hW3⟩ : ∃ W3, W2.alloc (.cells #[.int .i64 e.at_, .int .i64 e.kind, (.slice ma e.mask.length mc)] 67) = W3 := ⟨_, rfl⟩
      rw [hW3] at h3 hk3 b3 x3 hsm2 hS3
      have j3 := h3.c3
      (try dsimp only at j3)
      rw [hv.out] at j3
      have jf := h3.chip.frozen 3
      have h4 := h3.set_evs (.slice sa r.length sc) r hS3
      have hk4 := hk3.set_in c 3 (.slice sa r.length sc) h3.fc
      have b4 := b3.far ⟨c, 3, none⟩ (.slice sa r.length sc) (by show c ≠ w.heap.size; omega)
      have x4 := x3.far ⟨c, 3, none⟩ (.slice sa r.length sc) (by show c ≠ W2.heap.size; omega)
      have hsm4 := hsm2.trans (h3.same_set c 3 (.slice sa r.length sc) h3.fc)
      obtain ⟨W4, hW4⟩ : ∃ W4, W3.setCell ⟨c, 3, none⟩ (.slice sa r.length sc) = W4 := ⟨_, rfl⟩
      rw [hW4] at h4 hk4 b4 x4 hsm4
      have y0 := x4.get 0 _ rfl
      have y1 := x4.get 1 _ rfl
      have y2 := x4.get 2 _ rfl
      have z0 := b4.get 0 _ rfl
      have z1 := b4.get 1 _ rfl
      have z2 := b4.get 2 _ rfl
      have g0 := b4.frozen 0
      have g1 := b4.frozen 1
      have g2 := b4.frozen 2
      have h9 := Lib.hid (((h4.set_out w.heap.size 0 (.int .i64 e.at_) hout).set_out w.heap.size 1 (.int .i64 e.kind) hout).set_out w.heap.size 2 (.slice ma e.mask.length mc) hout)
      have hk9 := Lib.hid (((hk4.set_new w.heap.size 0 (.int .i64 e.at_) (Nat.le_refl _)).set_new w.heap.size 1 (.int .i64 e.kind) (Nat.le_refl _)).set_new w.heap.size 2 (.slice ma e.mask.length mc) (Nat.le_refl _))
      have b9 := Lib.hid (((b4.set 0 (.int .i64 e.at_)).set 1 (.int .i64 e.kind)).set 2 (.slice ma e.mask.length mc))
      have hsm9 : Same Fr W2 (((W4.setCell ⟨w.heap.size, 0, none⟩ (.int .i64 e.at_)).setCell ⟨w.heap.size, 1, none⟩ (.int .i64 e.kind)).setCell ⟨w.heap.size, 2, none⟩ (.slice ma e.mask.length mc)) := ⟨fun x hx => by
        have hne : x ≠ w.heap.size := fun e => by subst e; exact hout.2 hx
        rw [Below.heap_setCell _ _ _ x hne, Below.heap_setCell _ _ _ x hne, Below.heap_setCell _ _ _ x hne]
        exact hsm4.1 x hx, by simp [World.setCell]; exact hsm4.2⟩
      have hmv9 := Lib.hid (fun W h => hmv2 W (hsm9.trans h))
      clear h2 h3 h4 hk2 hk3 hk4 b0 b3 b4 x3 x4 hba hS2 hS3 hsm2 hsm4 hsm9 hmv2
      go_wp2_with fail
      exact bodyPost_ret (res58 b9.out rfl) rfl ⟨_, (.slice sa r.length sc), rfl, ⟨(.slice ma e.mask.length mc), rfl, hmv9.out⟩, h9.out, hk9.out⟩
end Go.Proofs.Ytlgjlhgdpiipbaa
