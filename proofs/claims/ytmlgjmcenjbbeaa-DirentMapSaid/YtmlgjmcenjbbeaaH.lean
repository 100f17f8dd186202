/- dirent.one: the record at a place. -/
import Derived.Test.YtmlgjmcenjbbeaaG
import Derived.BigRegion
import Derived.Deep.RegionWith
import Derived.Deep.RegionHeld3
import Derived.Deep.DeepCutAuto
namespace Go.Proofs.Ytmlgjmcenjbbeaa
open Go.RowKit
def recCells (r : Rec) : Array Value := #[.int .i64 r.at_, .int .i64 r.len, .string (S r.e.name), .int .i64 r.e.ino, .int .i64 r.e.kind]
def zeroRec : Rec := ⟨0, 0, ⟨[], 0, 0⟩⟩
theorem res56 {W : World} {b : Nat} {r : Rec} {is : Bool} (h : Box W b 69 (recCells r)) {tmps : Array Value} (h4 : tmps.getD 4 undef = .pointer (some ⟨b, 0, none⟩)) (h5 : tmps.getD 5 undef = .bool is) :
    (results Try.f56 tmps).run Try.prog W = .ok (.tuple #[recV r, .bool is]) W := by
  have d0 := h.get 0 _ rfl
  have d1 := h.get 1 _ rfl
  have d2 := h.get 2 _ rfl
  have d3 := h.get 3 _ rfl
  have d4 := h.get 4 _ rfl
  simp at h4 h5
  simp [results, Try.results56, go_sem, h4, h5, d0, d1, d2, d3, d4, recV, recCells]
theorem set_far {W : World} {b : Nat} (j : Nat) (v : Value) {B : Nat} (h : B ≠ b) (i : Nat) : (W.setCell ⟨b, j, none⟩ v).cell? ⟨B, i, none⟩ = W.cell? ⟨B, i, none⟩ :=
  World.cell?_of_block (w := W) (w' := W.setCell ⟨b, j, none⟩ v) (a := ⟨B, i, none⟩) (Below.heap_setCell W ⟨b, j, none⟩ v B h)
/-- Two records in boxes of the call's own. -/
def Two (w : World) (r : Rec) (p : Value) (wx : World) : Prop :=
  ∃ B, p = .pointer (some ⟨B, 0, none⟩) ∧ Box wx B 69 (recCells r) ∧ B ≠ w.heap.size ∧ w.heap.size ≤ B ∧ Box wx w.heap.size 69 (recCells zeroRec) ∧ Below w.heap.size w wx
set_option maxRecDepth 100000 in
set_option maxHeartbeats 16000000 in
theorem one_any (b : List UInt8) (a : Nat) (v : Value) (w : World) (hr : RdB w v b) (hb : b.length ≤ 256) (ha : a ≤ 256) : Calls Try.prog 56 #[v, .int .i64 a] w (OneRes (Nm.one b a) w) := by
  by_cases hlen : b.length < a + 8
  · have hno := Lib.hid (Nm.one_no (b := b) (a := a) (fun h => by have := h.1; omega))
    obtain ⟨aa, cap, hv⟩ := hr.len
    subst hv
    clear hr
    have t1 : (b.length : Int) - a < 8 := by omega
    go_enter Try.func56, Try.ntmps56
    go_wp2
    have hB0 := (Below.refl _ w).alloc (Nat.le_refl _) (.cells (recCells zeroRec) 69)
    exact bodyPost_ret (res56 (r := zeroRec) (b := w.heap.size) (is := false) (Box.new w 69 (recCells zeroRec)) rfl rfl) rfl (oneRes_none hno.out _ hB0)
  have hne : b ≠ [] := by intro e; subst e; simp at hlen
  obtain ⟨bb, o, cap, hv, hcap, hbb, hcell⟩ := hr.at hne
  subst hv
  have t1 : ¬ (b.length : Int) - a < 8 := by omega
  obtain ⟨W1, hW1⟩ : ∃ W1, w.alloc (.cells #[.int .i64 0, .int .i64 0, .string ⟨#[]⟩, .int .i64 0, .int .i64 0] 69) = W1 := ⟨_, rfl⟩
  have hB1 : Below w.heap.size w W1 := by rw [← hW1]; exact (Below.refl _ w).alloc (Nat.le_refl _) _
  have hX1 : Box W1 w.heap.size 69 (recCells zeroRec) := by rw [← hW1]; exact Box.new _ _ _
  have hr4 : ∀ (c : Nat) (W : World), Below w.heap.size w W → 4 ≤ c → Calls Try.prog 59 #[.slice (some ⟨bb, o + a, none⟩) 4 c] W (Num (Nm.inoAt b a) W) :=
    fun c W hW hc => num_any _ _ W ((hr.below hW).part a 4 c (by omega) hc) (by simp; omega)
  have hr2 : ∀ (c : Nat) (W : World), Below w.heap.size w W → 2 ≤ c → Calls Try.prog 59 #[.slice (some ⟨bb, o + a + 4, none⟩) 2 c] W (Num (Nm.lenAt b a) W) :=
    fun c W hW hc => num_any _ _ W ((hr.below hW).part (a + 4) 2 c (by omega) hc) (by simp; omega)
  replace hr4 := Lib.hid hr4
  replace hr2 := Lib.hid hr2
  obtain ⟨ino, hino⟩ : ∃ n, Nm.inoAt b a = n := ⟨_, rfl⟩
  obtain ⟨ln, hln⟩ : ∃ n, Nm.lenAt b a = n := ⟨_, rfl⟩
  rw [hino] at hr4
  rw [hln] at hr2
  have c7 : W1.cell? ⟨bb, o + a + 7, none⟩ = _ := (hB1.cell (p := ⟨bb, o + a + 7, none⟩) hbb).trans (hcell (a + 7) (by omega))
  obtain ⟨k, hk⟩ : ∃ n, Nm.klen b a = n := ⟨_, rfl⟩
  obtain ⟨kd, hkd⟩ : ∃ n, Nm.knd b a = n := ⟨_, rfl⟩
  have e6 : byteV b[a + 6] = .int .u8 k := by
    rw [← hk]; unfold Nm.klen byteV; rw [List.getD_eq_getElem?_getD, List.getElem?_eq_getElem (by omega)]; rfl
  have e7 : byteV b[a + 7] = .int .u8 kd := by
    rw [← hkd]; unfold Nm.knd byteV; rw [List.getD_eq_getElem?_getD, List.getElem?_eq_getElem (by omega)]; rfl
  have c6w : w.cell? ⟨bb, o + a + 6, none⟩ = some (.int .u8 k) := (hcell (a + 6) (by omega)).trans (by rw [e6])
  replace c6w := Lib.hid c6w
  rw [e7] at c7
  have hk256 : k < 256 := by rw [← hk]; exact UInt8.toNat_lt _
  have hkd256 : kd < 256 := by rw [← hkd]; exact UInt8.toNat_lt _
  clear e6 e7
  replace hr := Lib.hid hr
  replace hcell := Lib.hid hcell
  replace hino := Lib.hid hino
  replace hln := Lib.hid hln
  replace hk := Lib.hid hk
  replace hkd := Lib.hid hkd
  have hsz := hX1.lt
  obtain ⟨ca, hca⟩ : ∃ ca, cap - a = ca := ⟨_, rfl⟩
  have hca8 : 8 ≤ ca := by omega
  have hca4 : (4 : Int) ≤ (ca : Int) := by omega
  have hca4' : ¬ ca = 4 := by omega
  have hkdw : IntKind.i64.wrap (kd : Int) = kd := by rw [IntKind.wrap_i64]; omega
  have hca6 : (6 : Int) ≤ (ca : Int) := by omega
  go_enter Try.func56, Try.ntmps56
  go_upto_region 4 with (fail)
  clear hW1
  replace hca := Lib.hid hca
  rw [show a + 8 - a = 8 from by omega]
  go_cut [7] (fun p wx => Two w ⟨a, ln, ⟨[], ino, kd⟩⟩ p wx)
  case first => as_aux_lemma =>
    go_region_held3 (fun w' => w'.cell? ⟨bb, o + a + 7, none⟩ = some (.int .u8 kd) ∧ Below w.heap.size w w' ∧ w.heap.size < w'.heap.size)
      ((go_split_ands; refine ⟨?_, ?_, ?_⟩ <;> first | assumption | (rw [World.cell?_alloc_lt _ _ _ (by simp; omega)]; assumption) | exact Below.drew (by assumption) | exact Below.drew (Below.alloc (by assumption) (by omega) _) | exact Below.alloc (by assumption) (by omega) _ | (simp; omega) | go_keep))
      (first | (go_at_call 59; (with_reducible refine (hr2.out _ _ ?_ ?_).mono ?_); (first | assumption | exact Below.drew (by assumption) | exact (‹_ ∧ Below _ w _ ∧ _› : _ ∧ Below _ w _ ∧ _).2.1 | (go_split_ands; first | assumption | exact Below.drew (by assumption))); omega; rintro e w' ⟨rfl, hw⟩; obtain rfl := hw.symm) | (go_at_call 59; (with_reducible refine (hr4.out _ _ ?_ ?_).mono ?_); (first | assumption | exact Below.drew (by assumption) | exact (‹_ ∧ Below _ w _ ∧ _› : _ ∧ Below _ w _ ∧ _).2.1 | (go_split_ands; first | assumption | exact Below.drew (by assumption))); omega; rintro e w' ⟨rfl, hw⟩; obtain rfl := hw.symm))
    all_goals
      go_wp2_with fail
      go_meet
      exact ⟨W1.heap.size, rfl, Box.new _ _ _, by omega, by omega, hX1.alloc _, (hB1.alloc (Nat.le_of_lt hsz) _).drew⟩
  case rest =>
  obtain ⟨B, rfl, hX, hne2, hle, hY, hB⟩ := hcut
  have hBlt := hX.lt
  have d0 := hX.get 0 _ rfl
  have d1 := hX.get 1 _ rfl
  have d2 := hX.get 2 _ rfl
  have d3 := hX.get 3 _ rfl
  have d4 := hX.get 4 _ rfl
  have f0 := hX.frozen
  have g0 := hY.get 0 _ rfl
  have g1 := hY.get 1 _ rfl
  have g2 := hY.get 2 _ rfl
  have g3 := hY.get 3 _ rfl
  have g4 := hY.get 4 _ rfl
  have f1 := hY.frozen
  have c6 := (hB.cell (p := ⟨bb, o + a + 6, none⟩) hbb).trans c6w.out
  simp only [recCells, List.getElem_toArray, List.getElem_cons_zero, List.getElem_cons_succ] at d0 d1 d2 d3 d4
  simp only [recCells, zeroRec, List.getElem_toArray, List.getElem_cons_zero, List.getElem_cons_succ] at g0 g1 g2 g3 g4
  replace hX := Lib.hid hX
  replace hY := Lib.hid hY
  replace hB := Lib.hid hB
  have hB5 := Lib.hid (((((hB.out.setCell (p := ⟨w.heap.size, 0, none⟩) (Nat.le_refl _) (.int .i64 0)).setCell (p := ⟨w.heap.size, 1, none⟩) (Nat.le_refl _) (.int .i64 0)).setCell (p := ⟨w.heap.size, 2, none⟩) (Nat.le_refl _) (.string ⟨#[]⟩)).setCell (p := ⟨w.heap.size, 3, none⟩) (Nat.le_refl _) (.int .i64 0)).setCell (p := ⟨w.heap.size, 4, none⟩) (Nat.le_refl _) (.int .i64 0))
  by_cases q1 : ln % 4 = 0
  case neg =>
    have q1' : ((ln : Int) % 4 == 0) = false := by rw [beq_eq_false_iff_ne]; omega
    have q1'' : ((ln : Int) % 4 != 0) = true := by rw [bne_iff_ne]; omega
    have hno := Lib.hid (Nm.one_no (b := b) (a := a) (fun h => q1 (by have := h.2.1; rw [hln.out] at this; exact this)))
    go_wp2_with fail
    refine bodyPost_ret (res56 (r := zeroRec) (b := w.heap.size) (is := false) (((((hY.out.set 0 _).set 1 _).set 2 _).set 3 _).set 4 _) rfl rfl) rfl ?_
    exact oneRes_none hno.out _ hB5.out
  have q1' : ((ln : Int) % 4 == 0) = true := by rw [beq_iff_eq]; omega
  have q1'' : ((ln : Int) % 4 != 0) = false := by rw [bne_eq_false_iff_eq]; omega
  replace q1 := Lib.hid q1
  by_cases q2 : ln < 8
  · have hno := Lib.hid (Nm.one_no (b := b) (a := a) (fun h => by have := h.2.2.1; rw [hln.out] at this; omega))
    go_wp2_with fail
    refine bodyPost_ret (res56 (r := zeroRec) (b := w.heap.size) (is := false) (((((hY.out.set 0 _).set 1 _).set 2 _).set 3 _).set 4 _) rfl rfl) rfl ?_
    exact oneRes_none hno.out _ hB5.out
  by_cases q3 : b.length < a + ln
  · have hno := Lib.hid (Nm.one_no (b := b) (a := a) (fun h => by have := h.2.2.2.1; rw [hln.out] at this; omega))
    have t3 : (ln : Int) > b.length - a := by omega
    go_wp2_with fail
    refine bodyPost_ret (res56 (r := zeroRec) (b := w.heap.size) (is := false) (((((hY.out.set 0 _).set 1 _).set 2 _).set 3 _).set 4 _) rfl rfl) rfl ?_
    exact oneRes_none hno.out _ hB5.out
  have t3 : ¬ (ln : Int) > b.length - a := by omega
  by_cases q4 : ln < k + 8
  · have hno := Lib.hid (Nm.one_no (b := b) (a := a) (fun h => by have := h.2.2.2.2.1; rw [hln.out, hk.out] at this; omega))
    have t4 : (k : Int) > ln - 8 := by omega
    go_wp2_with fail
    refine bodyPost_ret (res56 (r := zeroRec) (b := w.heap.size) (is := false) (((((hY.out.set 0 _).set 1 _).set 2 _).set 3 _).set 4 _) rfl rfl) rfl ?_
    exact oneRes_none hno.out _ hB5.out
  have t4 : ¬ (k : Int) > ln - 8 := by omega
  have hnm : (b.drop (a + 8)).take k = Nm.nameAt b a := by unfold Nm.nameAt; rw [hk.out]
  have hcv := convert_rd (P := Try.prog) Try.underlying22 Try.underlying5 Try.underlying9 ((hr.out.below hB.out).part (a + 8) k (cap - (a + 8)) (by omega) (by omega))
  have hcv0 : k = 0 → ∀ c, (convert 22 9 (.slice (some ⟨bb, o, none⟩) k c)).run Try.prog wc = .ok (.string (S (Nm.nameAt b a))) wc := by
    intro h c
    rw [← hnm, h]
    exact convert_rd (P := Try.prog) Try.underlying22 Try.underlying5 Try.underlying9 (show RdB wc (.slice (some ⟨bb, o, none⟩) 0 c) [] from ⟨_, c, rfl, Nat.zero_le _, fun j x h => by simp at h⟩)
  rw [hnm] at hcv
  replace hnm := Lib.hid hnm
  obtain ⟨nm, hnme⟩ : ∃ nm, Nm.nameAt b a = nm := ⟨_, rfl⟩
  rw [hnme] at hcv hnm hcv0
  replace hcv0 := Lib.hid hcv0
  have hnml : nm.length ≤ 256 := by rw [← hnme]; unfold Nm.nameAt; rw [List.length_take, List.length_drop]; omega
  replace hnme := Lib.hid hnme
  replace hB5 := Lib.hid hB5
  clear g0 g1 g2 g3 g4 f1
  go_upto_region 8 with fail
  go_cut [] (fun wx => Box wx B 69 (recCells ⟨a, ln, ⟨nm, ino, kd⟩⟩) ∧ Box wx w.heap.size 69 (recCells zeroRec) ∧ Below w.heap.size w wx)
  case first =>
    by_cases hcz : cap = a + 8
    · have hk0 : k = 0 := by omega
      have hcv1 := hcv0.out hk0 0
      have hcz' : cap - (a + 8) = 0 := by omega
      clear hk0 hcz
      go_wp2_with fail
      go_meet
      exact ⟨hX.out.set 2 _, by
        have := hY.out
        unfold Box at this ⊢
        rw [Below.heap_setCell wc ⟨B, 2, none⟩ _ w.heap.size (fun e => hne2 e.symm)]; exact this, hB.out.setCell (p := ⟨B, 2, none⟩) hle _⟩
    · have hcz' : ¬ cap - (a + 8) = 0 := by omega
      go_wp2_with fail
      go_meet
      exact ⟨hX.out.set 2 _, by
        have := hY.out
        unfold Box at this ⊢
        rw [Below.heap_setCell wc ⟨B, 2, none⟩ _ w.heap.size (fun e => hne2 e.symm)]; exact this, hB.out.setCell (p := ⟨B, 2, none⟩) hle _⟩
  case rest =>
  obtain ⟨hX2, hY2, hB2⟩ := hcut
  clear d0 d1 d2 d3 d4 f0 c6 hX hY hB hB5 hcv hcv0 q1' q1'' hBlt
  have hBlt := hX2.lt
  have hYlt := hY2.lt
  have d0 := hX2.get 0 _ rfl
  have d1 := hX2.get 1 _ rfl
  have d2 := hX2.get 2 _ rfl
  have d3 := hX2.get 3 _ rfl
  have d4 := hX2.get 4 _ rfl
  have g0 := hY2.get 0 _ rfl
  have g1 := hY2.get 1 _ rfl
  have g2 := hY2.get 2 _ rfl
  have g3 := hY2.get 3 _ rfl
  have g4 := hY2.get 4 _ rfl
  have f1 := hY2.frozen
  simp only [recCells, List.getElem_toArray, List.getElem_cons_zero, List.getElem_cons_succ] at d0 d1 d2 d3 d4
  simp only [recCells, zeroRec, List.getElem_toArray, List.getElem_cons_zero, List.getElem_cons_succ] at g0 g1 g2 g3 g4
  have hrec := Lib.hid (show Nm.recAt b a = ⟨a, ln, ⟨nm, ino, kd⟩⟩ by unfold Nm.recAt; rw [hln.out, hino.out, hkd.out, hnme.out])
  have hgood := Lib.hid (show Nm.Good b a ↔ (if ino = 0 then k = 0 ∧ kd = 0 else Nm.chk ⟨nm, ino, kd⟩ = 0 ∧ Nm.need nm ≤ ln) by
    unfold Nm.Good
    rw [hrec.out, hln.out, hino.out, hkd.out, hk.out, hnme.out]
    exact ⟨fun h => h.2.2.2.2.2, fun h => ⟨by omega, q1.out, by omega, by omega, by omega, h⟩⟩)
  by_cases hi0 : ino = 0
  · have hg2 := Lib.hid (show Nm.Good b a ↔ k = 0 ∧ kd = 0 by rw [hgood.out, if_pos hi0])
    subst hi0
    by_cases hk0 : k = 0
    · by_cases hkd0 : kd = 0
      · have z1 : ((k : Int) == 0) = true := by rw [beq_iff_eq]; omega
        have z2 : ((kd : Int) == 0) = true := by rw [beq_iff_eq]; omega
        have hy := Lib.hid (hg2.out.2 ⟨hk0, hkd0⟩)
        clear hk0 hkd0
        go_wp2_with fail
        go_region
        go_wp2_with fail
        refine bodyPost_ret (res56 (r := ⟨a, ln, ⟨nm, 0, kd⟩⟩) (b := w.heap.size) (is := true) ((((((hY2.set 0 _).set 1 _).set 2 _).set 3 _).set 4 _).drew) rfl rfl) rfl ?_
        exact oneRes_some (by rw [Nm.one_yes (hy.out), hrec.out]; rfl) (((((hB2.setCell (p := ⟨w.heap.size, 0, none⟩) (Nat.le_refl _) _).setCell (p := ⟨w.heap.size, 1, none⟩) (Nat.le_refl _) _).setCell (p := ⟨w.heap.size, 2, none⟩) (Nat.le_refl _) _).setCell (p := ⟨w.heap.size, 3, none⟩) (Nat.le_refl _) _).setCell (p := ⟨w.heap.size, 4, none⟩) (Nat.le_refl _) _).drew
      · have z1 : ((k : Int) == 0) = true := by rw [beq_iff_eq]; omega
        have z2 : ((kd : Int) == 0) = false := by rw [beq_eq_false_iff_ne]; omega
        have hy := Lib.hid (fun h => hkd0 (hg2.out.1 h).2)
        clear hk0 hkd0
        go_wp2_with fail
        go_region
        go_wp2_with fail
        refine bodyPost_ret (res56 (r := ⟨a, ln, ⟨nm, 0, kd⟩⟩) (b := w.heap.size) (is := false) ((((((hY2.set 0 _).set 1 _).set 2 _).set 3 _).set 4 _).drew) rfl rfl) rfl ?_
        exact oneRes_none (Nm.one_no hy.out) _ (((((hB2.setCell (p := ⟨w.heap.size, 0, none⟩) (Nat.le_refl _) _).setCell (p := ⟨w.heap.size, 1, none⟩) (Nat.le_refl _) _).setCell (p := ⟨w.heap.size, 2, none⟩) (Nat.le_refl _) _).setCell (p := ⟨w.heap.size, 3, none⟩) (Nat.le_refl _) _).setCell (p := ⟨w.heap.size, 4, none⟩) (Nat.le_refl _) _).drew
    · have z1 : ((k : Int) == 0) = false := by rw [beq_eq_false_iff_ne]; omega
      have hy := Lib.hid (fun h => hk0 (hg2.out.1 h).1)
      clear hk0
      go_wp2_with fail
      go_region
      go_wp2_with fail
      refine bodyPost_ret (res56 (r := ⟨a, ln, ⟨nm, 0, kd⟩⟩) (b := w.heap.size) (is := false) ((((((hY2.set 0 _).set 1 _).set 2 _).set 3 _).set 4 _).drew) rfl rfl) rfl ?_
      exact oneRes_none (Nm.one_no hy.out) _ (((((hB2.setCell (p := ⟨w.heap.size, 0, none⟩) (Nat.le_refl _) _).setCell (p := ⟨w.heap.size, 1, none⟩) (Nat.le_refl _) _).setCell (p := ⟨w.heap.size, 2, none⟩) (Nat.le_refl _) _).setCell (p := ⟨w.heap.size, 3, none⟩) (Nat.le_refl _) _).setCell (p := ⟨w.heap.size, 4, none⟩) (Nat.le_refl _) _).drew
  · have z0 : ((ino : Int) == 0) = false := by rw [beq_eq_false_iff_ne]; omega
    have hg2 := Lib.hid (show Nm.Good b a ↔ Nm.chk ⟨nm, ino, kd⟩ = 0 ∧ Nm.need nm ≤ ln by rw [hgood.out, if_neg hi0])
    have hcc := fun W => check_any ⟨nm, ino, kd⟩ W
    have hco := fun W => own_any ⟨a, ln, ⟨nm, ino, kd⟩⟩ W (by dsimp only; omega)
    rw [show Nm.own ⟨a, ln, ⟨nm, ino, kd⟩⟩ = (Nm.need nm : Int) by unfold Nm.own; rw [if_neg (by dsimp only; omega)]] at hco
    obtain ⟨c, hc⟩ : ∃ c, Nm.chk ⟨nm, ino, kd⟩ = c := ⟨_, rfl⟩
    obtain ⟨n, hn⟩ : ∃ n, Nm.need nm = n := ⟨_, rfl⟩
    rw [hc, hn] at hg2
    rw [hc] at hcc
    rw [hn] at hco
    clear hc hn
    unfold entV at hcc
    unfold recV at hco
    dsimp only at hcc hco
    replace hcc := Lib.hid hcc
    replace hco := Lib.hid hco
    have hZ : Box wc w.heap.size 69 #[.int .i64 0, .int .i64 0, .string ⟨#[]⟩, .int .i64 0, .int .i64 0] := hY2
    have cX := hX2.cell
    unfold recCells at cX
    dsimp only at cX
    have cXd := Lib.hid (show ∀ j, wc.drew.cell? ⟨B, j, none⟩ = (#[.int .i64 a, .int .i64 ln, .string (S nm), .int .i64 ino, .int .i64 kd] : Array Value)[j]? from cX)
    have hBd := Lib.hid (show B < wc.drew.heap.size from hBlt)
    have hZd := Lib.hid (hZ.drew)
    have hB2d := Lib.hid hB2.drew
    have hstep := Lib.hid (show ∀ V V' : World, ((∀ j, V.cell? ⟨B, j, none⟩ = (#[.int .i64 a, .int .i64 ln, .string (S nm), .int .i64 ino, .int .i64 kd] : Array Value)[j]?) ∧ Box V w.heap.size 69 #[.int .i64 0, .int .i64 0, .string ⟨#[]⟩, .int .i64 0, .int .i64 0] ∧ Below w.heap.size w V ∧ B < V.heap.size) → Below V.heap.size V V' → ((∀ j, V'.cell? ⟨B, j, none⟩ = (#[.int .i64 a, .int .i64 ln, .string (S nm), .int .i64 ino, .int .i64 kd] : Array Value)[j]?) ∧ Box V' w.heap.size 69 #[.int .i64 0, .int .i64 0, .string ⟨#[]⟩, .int .i64 0, .int .i64 0] ∧ Below w.heap.size w V' ∧ B < V'.heap.size) from fun V V' h hb => ⟨fun j => (hb.cell (p := ⟨B, j, none⟩) h.2.2.2).trans (h.1 j), h.2.1.below hb, h.2.2.1.trans (hb.mono h.2.2.1.size), Nat.lt_of_lt_of_le h.2.2.2 hb.size⟩)
    clear d0 d1 d2 d3 d4
    by_cases hc0 : c = 0
    · have hc0' : (c == 0) = true := by simpa using hc0
      by_cases hnl : n ≤ ln
      · have hnl' : ((ln : Int) ≥ n) := by omega
        have hy := Lib.hid (hg2.out.2 ⟨hc0, hnl⟩)
        replace hc0 := Lib.hid hc0
        go_wp2_with fail
        go_region_held3 (fun w' => ∀ j, w'.cell? ⟨B, j, none⟩ = #[.int .i64 a, .int .i64 ln, .string (S nm), .int .i64 ino, .int .i64 kd][j]?)
          (first | with_reducible exact cXd.out | with_reducible exact v1.out.1 | with_reducible exact v2.out.1 | (intro j; (repeat rw [set_far _ _ hne2]); first | with_reducible exact v2.out.1 j | with_reducible exact v1.out.1 j) | go_keep)
          (first | (go_at_call 13; (with_reducible refine (hcc.out _).mono ?_); rintro e w1 ⟨rfl, hb1⟩; have v1 := Lib.hid (hstep.out _ _ ⟨cXd.out, hZd.out, hB2d.out, hBd.out⟩ hb1); have e1 := v1.out.2.1.cell; have r1 := v1.out.2.1.frozen) | (go_at_call 49; (with_reducible refine (hco.out _).mono ?_); rintro e w2 ⟨rfl, hb2⟩; have v2 := Lib.hid (hstep.out _ _ v1.out hb2); have e2 := v2.out.2.1.cell; have r2 := v2.out.2.1.frozen))
        go_wp2_with fail
        refine bodyPost_ret (res56 (r := ⟨a, ln, ⟨nm, ino, kd⟩⟩) (b := w.heap.size) (is := true) (((((v2.out.2.1.set 0 _).set 1 _).set 2 _).set 3 _).set 4 _) rfl rfl) rfl ?_
        exact oneRes_some (by rw [Nm.one_yes (hy.out), hrec.out]) (((((v2.out.2.2.1.setCell (p := ⟨w.heap.size, 0, none⟩) (Nat.le_refl _) _).setCell (p := ⟨w.heap.size, 1, none⟩) (Nat.le_refl _) _).setCell (p := ⟨w.heap.size, 2, none⟩) (Nat.le_refl _) _).setCell (p := ⟨w.heap.size, 3, none⟩) (Nat.le_refl _) _).setCell (p := ⟨w.heap.size, 4, none⟩) (Nat.le_refl _) _)
      · have hnl' : ¬ ((ln : Int) ≥ n) := by omega
        have hy := Lib.hid (fun h => hnl (hg2.out.1 h).2)
        replace hc0 := Lib.hid hc0
        replace hnl := Lib.hid hnl
        go_wp2_with fail
        go_region_held3 (fun w' => ∀ j, w'.cell? ⟨B, j, none⟩ = #[.int .i64 a, .int .i64 ln, .string (S nm), .int .i64 ino, .int .i64 kd][j]?)
          (first | with_reducible exact cXd.out | with_reducible exact v1.out.1 | with_reducible exact v2.out.1 | (intro j; (repeat rw [set_far _ _ hne2]); first | with_reducible exact v2.out.1 j | with_reducible exact v1.out.1 j) | go_keep)
          (first | (go_at_call 13; (with_reducible refine (hcc.out _).mono ?_); rintro e w1 ⟨rfl, hb1⟩; have v1 := Lib.hid (hstep.out _ _ ⟨cXd.out, hZd.out, hB2d.out, hBd.out⟩ hb1); have e1 := v1.out.2.1.cell; have r1 := v1.out.2.1.frozen) | (go_at_call 49; (with_reducible refine (hco.out _).mono ?_); rintro e w2 ⟨rfl, hb2⟩; have v2 := Lib.hid (hstep.out _ _ v1.out hb2); have e2 := v2.out.2.1.cell; have r2 := v2.out.2.1.frozen))
        go_wp2_with fail
        refine bodyPost_ret (res56 (r := ⟨a, ln, ⟨nm, ino, kd⟩⟩) (b := w.heap.size) (is := false) (((((v2.out.2.1.set 0 _).set 1 _).set 2 _).set 3 _).set 4 _) rfl (by show Value.bool (decide (n ≤ ln)) = _; rw [decide_eq_false hnl.out])) rfl ?_
        exact oneRes_none (Nm.one_no hy.out) _ (((((v2.out.2.2.1.setCell (p := ⟨w.heap.size, 0, none⟩) (Nat.le_refl _) _).setCell (p := ⟨w.heap.size, 1, none⟩) (Nat.le_refl _) _).setCell (p := ⟨w.heap.size, 2, none⟩) (Nat.le_refl _) _).setCell (p := ⟨w.heap.size, 3, none⟩) (Nat.le_refl _) _).setCell (p := ⟨w.heap.size, 4, none⟩) (Nat.le_refl _) _)
    · have hc0' : (c == 0) = false := by simpa using hc0
      have hy := Lib.hid (fun h => hc0 (hg2.out.1 h).1)
      clear hc0
      go_wp2_with fail
      refine wp_region_noPanic ?_
      refine wp_region_held_drew (S := fun w' => ∀ j, w'.cell? ⟨B, j, none⟩ = (#[.int .i64 a, .int .i64 ln, .string (S nm), .int .i64 ino, .int .i64 kd] : Array Value)[j]?) (by kernel_rfl) cXd.out (fun hHeld => ?_)
      refine wpAnyH_take (i := 0) (v := ?_) rfl (by kernel_rfl) (by kernel_rfl) (by kernel_rfl) (fun _ _ _ h => h) (Or.inl ⟨rfl, ?_⟩) (by assumption) ?_
      rotate_left
      · intro W hSw
        (try dsimp only at hSw)
        go_simp
        try with_reducible rfl
      try simp only [List.getElem_toArray, List.getElem_cons_zero, List.getElem_cons_succ, Act.put, List.setIfInBounds_toArray, List.set_cons_zero, List.set_cons_succ]
      refine wpAnyH_take (i := 1) (v := ?_) rfl (by kernel_rfl) (by kernel_rfl) (by kernel_rfl) (fun _ _ _ h => h) (Or.inl ⟨rfl, ?_⟩) (by assumption) ?_
      rotate_left
      · intro W hSw
        (try dsimp only at hSw)
        go_simp
        try with_reducible rfl
      try simp only [List.getElem_toArray, List.getElem_cons_zero, List.getElem_cons_succ, Act.put, List.setIfInBounds_toArray, List.set_cons_zero, List.set_cons_succ]
      refine wpAnyH_take (i := 2) (v := ?_) rfl (by kernel_rfl) (by kernel_rfl) (by kernel_rfl) (fun _ _ _ h => h) (Or.inl ⟨rfl, ?_⟩) (by assumption) ?_
      rotate_left
      · intro W hSw
        (try dsimp only at hSw)
        go_simp
        try with_reducible rfl
      try simp only [List.getElem_toArray, List.getElem_cons_zero, List.getElem_cons_succ, Act.put, List.setIfInBounds_toArray, List.set_cons_zero, List.set_cons_succ]
      refine wpAnyH_ready (rs := [3]) (by kernel_rfl) (by simp) (AllReadyH.cons rfl (fun K hK => ?_) AllReadyH.nil)
      go_simp
      refine (hcc.out _).mono ?_
      rintro e w1 ⟨rfl, hb1⟩
      have v1 := Lib.hid (hstep.out _ _ ⟨cXd.out, hZd.out, hB2d.out, hBd.out⟩ hb1)
      have e1 := v1.out.2.1.cell
      have r1 := v1.out.2.1.frozen
      refine hK.out _ _ v1.out.1 (fun hHeld => ?_)
      clear hK
      try simp only [List.getElem_toArray, List.getElem_cons_zero, List.getElem_cons_succ, Act.put, List.setIfInBounds_toArray, List.set_cons_zero, List.set_cons_succ]
      refine wpAnyH_take (i := 4) (v := ?_) rfl (by kernel_rfl) (by kernel_rfl) (by kernel_rfl) (fun _ _ _ h => h) (Or.inl ⟨rfl, ?_⟩) (by assumption) ?_
      rotate_left
      · intro W hSw
        (try dsimp only at hSw)
        go_simp
        try with_reducible rfl
      try simp only [List.getElem_toArray, List.getElem_cons_zero, List.getElem_cons_succ, Act.put, List.setIfInBounds_toArray, List.set_cons_zero, List.set_cons_succ]
      refine wpAnyH_take (i := 5) (v := ?_) rfl (by kernel_rfl) (by kernel_rfl) (by kernel_rfl) (fun _ _ _ h => h) (Or.inl ⟨rfl, ?_⟩) (by assumption) ?_
      rotate_left
      · intro W hSw
        (try dsimp only at hSw)
        go_simp
        try with_reducible rfl
      try simp only [List.getElem_toArray, List.getElem_cons_zero, List.getElem_cons_succ, Act.put, List.setIfInBounds_toArray, List.set_cons_zero, List.set_cons_succ]
      refine wpAnyH_take (i := 6) (v := undef) rfl (by kernel_rfl) (by kernel_rfl) (by kernel_rfl) (fun _ _ _ h => h) (Or.inr ⟨rfl, rfl⟩) (by assumption) ?_
      try simp only [List.getElem_toArray, List.getElem_cons_zero, List.getElem_cons_succ, Act.put, List.setIfInBounds_toArray, List.set_cons_zero, List.set_cons_succ]
      refine wpAnyH_take (i := 7) (v := undef) rfl (by kernel_rfl) (by kernel_rfl) (by kernel_rfl) (fun _ _ _ h => h) (Or.inr ⟨rfl, rfl⟩) (by assumption) ?_
      try simp only [List.getElem_toArray, List.getElem_cons_zero, List.getElem_cons_succ, Act.put, List.setIfInBounds_toArray, List.set_cons_zero, List.set_cons_succ]
      refine wpAnyH_take (i := 8) (v := undef) rfl (by kernel_rfl) (by kernel_rfl) (by kernel_rfl) (fun _ _ _ h => h) (Or.inr ⟨rfl, rfl⟩) (by assumption) ?_
      try simp only [List.getElem_toArray, List.getElem_cons_zero, List.getElem_cons_succ, Act.put, List.setIfInBounds_toArray, List.set_cons_zero, List.set_cons_succ]
      refine wpAnyH_take (i := 9) (v := undef) rfl (by kernel_rfl) (by kernel_rfl) (by kernel_rfl) (fun _ _ _ h => h) (Or.inr ⟨rfl, rfl⟩) (by assumption) ?_
      try simp only [List.getElem_toArray, List.getElem_cons_zero, List.getElem_cons_succ, Act.put, List.setIfInBounds_toArray, List.set_cons_zero, List.set_cons_succ]
      refine wpAnyH_take (i := 10) (v := undef) rfl (by kernel_rfl) (by kernel_rfl) (by kernel_rfl) (fun _ _ _ h => h) (Or.inr ⟨rfl, rfl⟩) (by assumption) ?_
      try simp only [List.getElem_toArray, List.getElem_cons_zero, List.getElem_cons_succ, Act.put, List.setIfInBounds_toArray, List.set_cons_zero, List.set_cons_succ]
      refine wpAnyH_take (i := 11) (v := ?_) rfl (by kernel_rfl) (by kernel_rfl) (by kernel_rfl) (fun _ _ _ h => h) (Or.inl ⟨rfl, ?_⟩) (by assumption) ?_
      rotate_left
      · intro W hSw
        (try dsimp only at hSw)
        go_simp
        try with_reducible rfl
      try simp only [List.getElem_toArray, List.getElem_cons_zero, List.getElem_cons_succ, Act.put, List.setIfInBounds_toArray, List.set_cons_zero, List.set_cons_succ]
      refine wpAnyH_ready (rs := [12]) (by kernel_rfl) (by simp) (AllReadyH.cons rfl (fun K hK => ?_) AllReadyH.nil)
      go_simp
      refine hK.out _ _ (by intro j; (repeat rw [set_far _ _ hne2]); exact v1.out.1 j) (fun hHeld => ?_)
      clear hK
      try simp only [List.getElem_toArray, List.getElem_cons_zero, List.getElem_cons_succ, Act.put, List.setIfInBounds_toArray, List.set_cons_zero, List.set_cons_succ]
      refine wpAnyH_take (i := 13) (v := ?_) rfl (by kernel_rfl) (by kernel_rfl) (by kernel_rfl) (fun _ _ _ h => h) (Or.inl ⟨rfl, ?_⟩) (by assumption) ?_
      rotate_left
      · intro W hSw
        (try dsimp only at hSw)
        go_simp
        try with_reducible rfl
      try simp only [List.getElem_toArray, List.getElem_cons_zero, List.getElem_cons_succ, Act.put, List.setIfInBounds_toArray, List.set_cons_zero, List.set_cons_succ]
      refine wpAnyH_done (by kernel_rfl) ?_ _
      (try dsimp only [NoPanic])
      go_wp2_with fail
      refine bodyPost_ret (res56 (r := ⟨a, ln, ⟨nm, ino, kd⟩⟩) (b := w.heap.size) (is := false) (((((v1.out.2.1.set 0 _).set 1 _).set 2 _).set 3 _).set 4 _) rfl rfl) rfl ?_
      exact oneRes_none (Nm.one_no hy.out) _ (((((v1.out.2.2.1.setCell (p := ⟨w.heap.size, 0, none⟩) (Nat.le_refl _) _).setCell (p := ⟨w.heap.size, 1, none⟩) (Nat.le_refl _) _).setCell (p := ⟨w.heap.size, 2, none⟩) (Nat.le_refl _) _).setCell (p := ⟨w.heap.size, 3, none⟩) (Nat.le_refl _) _).setCell (p := ⟨w.heap.size, 4, none⟩) (Nat.le_refl _) _)
end Go.Proofs.Ytmlgjmcenjbbeaa
