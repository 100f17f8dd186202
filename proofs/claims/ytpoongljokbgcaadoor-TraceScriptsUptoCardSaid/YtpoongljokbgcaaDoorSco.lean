import Derived.Test.YtpoongljokbgcaaDoorScl
import Derived.Deep.DeepCutAuto
/- The reference's call of a line (slipwayref27.Parse), its data the call's own; printed by wip/tools/far26.py. -/
namespace Go.Proofs.YtpoongljokbgcaaDoor
open Go.RowKit
set_option maxRecDepth 100000 in
set_option maxHeartbeats 16000000 in
theorem parser_far (s : List UInt8) (w : World) (hP : Pw w) (hs : s.length ≤ 1000000) :
    Calls Tryd.prog 26 #[.string (S s)] w (OpRf (Tr.parseR s) w) := by
  obtain ⟨ws, hws⟩ : ∃ ws, Tr.spl 32 s = ws := ⟨_, rfl⟩
  have hwm : ws.length ≤ 1000001 := by rw [← hws]; exact Nat.le_trans (spl_len 32 s) (by omega)
  have hwx : ∀ x ∈ ws, x.length ≤ 1000000 := by rw [← hws]; exact fun x hx => Nat.le_trans (Tr.spl_mem 32 s x hx) hs
  have hc1 := fun W => wordsr_any s W (by omega)
  rw [hws] at hc1
  obtain ⟨x, r, rfl⟩ : ∃ x r, ws = x :: r := by
    cases ws with
    | nil => exact absurd hws (Tr.spl_ne 32 s)
    | cons x r => exact ⟨x, r, rfl⟩
  have hst := Lib.hid (show Tr.st0 s = ⟨⟨Tr.kindOf x, [], [], 0, 0, []⟩, r, decide (Tr.kindOf x ≠ 0)⟩ by
    unfold Tr.st0; simp only [hws, List.getD_cons_zero, List.drop_succ_cons, List.drop_zero])
  have hfit0 := Lib.hid (Tr.all_fit s)
  have hkr := kindN_range x 13
  obtain ⟨k, hk⟩ : ∃ k, Tr.kindOf x = k := ⟨_, rfl⟩
  have hkd := fun W => kindr_any x W
  rw [hk] at hst hkd
  have hkr' : 0 ≤ k ∧ k ≤ 13 := by rw [← hk]; exact ⟨hkr.1, hkr.2⟩
  obtain ⟨hk0, hk13⟩ := hkr'
  clear hkr
  replace hk := Lib.hid hk
  replace hws := Lib.hid hws
  replace hc1 := Lib.hid hc1
  replace hkd := Lib.hid hkd
  replace hwx := Lib.hid hwx
  replace hP := Lib.hid hP
  have hB0 := Lib.hid (show Below w.heap.size w (w.alloc (.cells zero44 44)) from (Below.refl _ _).alloc (Nat.le_refl _) _)
  have hX0 := Lib.hid (Box.new w 44 zero44)
  go_enter Tryd.func26, Tryd.ntmps26
  go_wp2_with fail
  refine (hc1.out _).mono ?_
  rintro e w1 ⟨v, rfl, hown, hb1⟩
  have hB1 := Lib.hid (hB0.out.trans (hb1.mono hB0.out.size))
  have hX1 := Lib.hid (hX0.out.below hb1)
  have hw1 := RdW.of_own hown (Nat.le_refl _)
  clear hown hb1
  obtain ⟨b', o, cap, rfl, hcap, hcm, hlt, hcell, hone⟩ := hw1.cons
  have hsz : w.heap.size < w1.heap.size := hX1.out.lt
  replace hw1 := Lib.hid hw1
  replace hone := Lib.hid hone
  go_wp2_with fail
  refine (hkd.out _).mono ?_
  rintro e w0 ⟨rfl, rfl⟩
  go_upto_region 5 with fail
  obtain ⟨S0, hS0⟩ : ∃ S0, Tr.st0 s = S0 := ⟨_, rfl⟩
  have hS : PSf w w.heap.size w1.heap.size S0 (.slice (if cap = 1 then some ⟨b', o, none⟩ else some ⟨b', o + 1, none⟩) r.length (cap - 1)) (.bool (k != 0)) (w1.alloc (.cells #[.int .i64 k, .string ⟨#[]⟩, .string ⟨#[]⟩, .int .i64 0, .int .i64 0, .slice none 0 0] 44)) := by
    have hal := (Below.refl w1.heap.size w1).alloc (Nat.le_refl _) (.cells #[.int .i64 k, .string ⟨#[]⟩, .string ⟨#[]⟩, .int .i64 0, .int .i64 0, .slice none 0 0] 44)
    rw [← hS0, hst.out]
    refine ⟨hone.out.below hal, ?_, ⟨none, 0, Box.new w1 44 _, Rd.nil _ _, FarA.none _⟩, hX1.out.below hal, hB1.out.trans (hal.mono hB1.out.size)⟩
    by_cases h : k = 0 <;> simp [h]
  have hkS : S0.op.kind = k := by rw [← hS0, hst.out]
  have hwS : ∀ y ∈ S0.ws, y.length ≤ 1000000 := by
    rw [← hS0, hst.out]; exact fun y hy => hwx.out y (List.mem_cons_of_mem _ hy)
  replace hS0 := Lib.hid hS0
  clear hst hone hwx hcell hcap hcm hlt hw1 hX1 hB1 hX0 hB0 hk hws hwm hc1 hkd
  generalize (Value.slice (if cap = 1 then some ⟨b', o, none⟩ else some ⟨b', o + 1, none⟩) r.length (cap - 1)) = v4 at hS ⊢
  generalize w1.alloc (.cells #[.int .i64 k, .string ⟨#[]⟩, .string ⟨#[]⟩, .int .i64 0, .int .i64 0, .slice none 0 0] 44) = W0 at hS ⊢
  have hbh : w.heap.size ≤ w1.heap.size := by omega
  have hbn : w1.heap.size ≠ w.heap.size := by omega
  generalize w1.heap.size = b at hS hbh hbn ⊢
  clear hsz
  obtain ⟨ob, hob⟩ : ∃ ob, (k != 0) = ob := ⟨_, rfl⟩
  have hok0 := hS.ok
  rw [hob] at hS ⊢
  replace hob := Lib.hid hob
  clear hok0
  -- step sPath
  have hokE := hS.ok
  go_cut [35] (fun c wx => c = .bool (S0.ok && decide (k ≠ 13) && !S0.ws.isEmpty) ∧ PSf w w.heap.size b S0 v4 (.bool ob) wx)
  case first => as_aux_lemma =>
    obtain ⟨ad, cp, hbx, -⟩ := hS.box
    have d0 := hbx.get 0 (.int .i64 S0.op.kind) rfl
    rw [hkS] at d0
    obtain ⟨va, vc, rfl⟩ := hS.ws.form
    clear hbx
    replace hkS := Lib.hid hkS
    replace hwS := Lib.hid hwS
    replace hS := Lib.hid hS
    rcases Bool.eq_false_or_eq_true S0.ok with h1 | h1
    · rw [h1] at hokE
      cases hokE
      by_cases hC : decide (k ≠ 13) = true
      · have hC' := of_decide_eq_true hC
        have e13 : (k != 13) = true := by simp [hC']
        replace hC := Lib.hid hC
        clear hC'
        by_cases hw : S0.ws = []
        · have hlen : (S0.ws.length : Int) ≤ 0 := by rw [hw]; decide
          replace hw := Lib.hid hw
          go_wp2_with fail
          go_meet
          exact ⟨by rw [h1, hC.out, hw.out]; rfl, hS.out⟩
        · have hlen : (0 : Int) < (S0.ws.length : Int) := by
            have := List.length_pos_iff.2 hw
            omega
          have hlenN : 0 < S0.ws.length := by omega
          have hw' := Lib.hid (show S0.ws.isEmpty = false by cases hx : S0.ws with
            | nil => exact absurd hx hw
            | cons y r => rfl)
          clear hw
          go_wp2_with fail
          go_meet
          exact ⟨by rw [h1, hC.out, hw'.out]; first | rfl | (rw [decide_eq_true hlenN]; rfl), hS.out⟩
      · have hC0 : decide (k ≠ 13) = false := by simpa using hC
        have hC' := of_decide_eq_false hC0
        have e13 : (k != 13) = false := by simpa using hC'
        replace hC0 := Lib.hid hC0
        clear hC' hC
        go_wp2_with fail
        go_meet
        exact ⟨by rw [h1, hC0.out]; rfl, hS.out⟩
    · rw [h1] at hokE
      cases hokE
      go_wp2_with fail
      go_meet
      exact ⟨by rw [h1]; rfl, hS.out⟩
  case rest =>
  clear hS
  obtain ⟨rfl, hS⟩ := hcut
  obtain ⟨S1, hS1⟩ : ∃ x, Tr.sPath S0 = x := ⟨_, rfl⟩
  have hES1 := Lib.hid hS1
  have hsk : S1.op.kind = k := by rw [← hS1, ← hkS]; exact st_kind _ _ _ (fun _ _ => rfl)
  have hsw : ∀ y ∈ S1.ws, y.length ≤ 1000000 := by rw [← hS1]; exact fun y hy => hwS y (st_ws _ _ _ y hy)
  have hP0 := Lib.hid (hP.out.below hS.bel)
  go_upto_if 35 with fail
  go_cut [4, 6] (fun v' ok' wx => PSf w w.heap.size b S1 v' ok' wx)
  case first => as_aux_lemma =>
    generalize hcb : (S0.ok && decide (k ≠ 13) && !S0.ws.isEmpty) = cb
    cases cb with
    | true =>
      obtain ⟨⟨h1, hC⟩, hw0⟩ : (S0.ok = true ∧ decide (k ≠ 13) = true) ∧ S0.ws.isEmpty = false := by simpa using hcb
      obtain ⟨y, r', hw⟩ : ∃ y r', S0.ws = y :: r' := by
        cases hx : S0.ws with
        | nil => rw [hx] at hw0; cases hw0
        | cons y r' => exact ⟨y, r', rfl⟩
      have hyl := hwS y (by rw [hw]; exact List.mem_cons_self ..)
      have hst := Lib.hid (show S1 = _ from hS1.symm.trans (step_yes (f := Tr.fPath) h1 (by rw [hkS]; exact hC) hw))
      obtain ⟨bb, oo, cc, hv, hcap, hcm, hlt, hcell, hone⟩ := RdW.cons (hw ▸ hS.ws)
      clear hw0 hC hw hsw hwS hsk hkS hS1 hcb
      rw [hv] at hS
      subst hv
      replace hS := Lib.hid hS
      replace hone := Lib.hid hone
      replace h1 := Lib.hid h1
      have hU := fun W => unquoter_pair y W (by omega)
      obtain ⟨tx, htx⟩ : ∃ tx, (Tr.unq y).getD [] = tx := ⟨_, rfl⟩
      rw [htx] at hU
      rcases Bool.eq_false_or_eq_true (Tr.unq y).isSome with h2 | h2
      all_goals
        rw [h2] at hU
        simp only [if_true, Bool.false_eq_true, if_false] at hU
        have hst2 := Lib.hid (hst.out.trans (show _ = (⟨{ S0.op with path := tx }, r', _⟩ : Tr.St) by unfold Tr.fPath; rw [htx, h2]))
        replace htx := Lib.hid htx
        replace h2 := Lib.hid h2
        replace hU := Lib.hid hU
        go_wp2_with fail
        refine (hU.out _).mono ?_
        rintro e w2 ⟨rfl, hb2⟩
        have hS2 := Lib.hid (hS.out.below hb2)
        have hone2 := Lib.hid (hone.out.below hb2)
        obtain ⟨ad0, cp0, bx, -⟩ := hS2.out.box
        have g := bx.get 1 _ rfl
        have gf := bx.frozen 1
        replace bx := Lib.hid bx
        go_wp2_with fail
        all_goals
          go_meet
          rw [hst2.out]
          refine PSf.put hS2.out hbh hbn 1 _ _ _ ?_ (fun ad cp x r f => ⟨ad, cp, by simpa [aggO] using x.set 1 (.string (S tx)), ((box_data x r).setCell 1 _).rd, f⟩)
          have h9 := hone2.out
          first | exact h9 | (rw [if_neg (by assumption)] at h9; exact h9) | (rw [if_pos (by first | rfl | assumption)] at h9; simpa [*] using h9)
    | false =>
      have hst := Lib.hid (show S1 = S0 from hS1.symm.trans (step_no (by rw [hkS]; exact hcb)))
      clear hsw hwS hsk hkS hS1 hcb
      replace hS := Lib.hid hS
      go_wp2_with fail
      go_meet
      rw [hst.out]
      exact hS.out
  case rest =>
  clear hS hP0 hkS hwS hS1
  try clear hokE
  have hS := hcut
  have hkS := hsk
  have hwS := hsw
  clear hcut hsk hsw
  go_upto_region 10 with fail
  -- step sTo
  have hokE := hS.ok
  go_cut [59] (fun c wx => c = .bool (S1.ok && decide (k = 3 ∨ k = 6) && !S1.ws.isEmpty) ∧ PSf w w.heap.size b S1 u4 u6 wx)
  case first => as_aux_lemma =>
    obtain ⟨ad, cp, hbx, -⟩ := hS.box
    have d0 := hbx.get 0 (.int .i64 S1.op.kind) rfl
    rw [hkS] at d0
    obtain ⟨va, vc, rfl⟩ := hS.ws.form
    clear hbx
    replace hkS := Lib.hid hkS
    replace hwS := Lib.hid hwS
    replace hS := Lib.hid hS
    rcases Bool.eq_false_or_eq_true S1.ok with h1 | h1
    · rw [h1] at hokE
      cases hokE
      by_cases hC : decide (k = 3 ∨ k = 6) = true
      · have hC' := of_decide_eq_true hC
        have hH := Lib.hid (fun w => hasTo_any k w true (by simpa using hC'))
        replace hC := Lib.hid hC
        clear hC'
        by_cases hw : S1.ws = []
        · have hlen : (S1.ws.length : Int) ≤ 0 := by rw [hw]; decide
          replace hw := Lib.hid hw
          go_wp2_with fail
          refine (hH.out _).mono ?_
          rintro e w0 ⟨rfl, rfl⟩
          go_wp2_with fail
          go_meet
          exact ⟨by rw [h1, hC.out, hw.out]; rfl, hS.out⟩
        · have hlen : (0 : Int) < (S1.ws.length : Int) := by
            have := List.length_pos_iff.2 hw
            omega
          have hlenN : 0 < S1.ws.length := by omega
          have hw' := Lib.hid (show S1.ws.isEmpty = false by cases hx : S1.ws with
            | nil => exact absurd hx hw
            | cons y r => rfl)
          clear hw
          go_wp2_with fail
          refine (hH.out _).mono ?_
          rintro e w0 ⟨rfl, rfl⟩
          go_wp2_with fail
          go_meet
          exact ⟨by rw [h1, hC.out, hw'.out]; first | rfl | (rw [decide_eq_true hlenN]; rfl), hS.out⟩
      · have hC0 : decide (k = 3 ∨ k = 6) = false := by simpa using hC
        have hC' := of_decide_eq_false hC0
        have hH := Lib.hid (fun w => hasTo_any k w false (by simpa using hC'))
        replace hC0 := Lib.hid hC0
        clear hC' hC
        go_wp2_with fail
        refine (hH.out _).mono ?_
        rintro e w0 ⟨rfl, rfl⟩
        go_wp2_with fail
        go_meet
        exact ⟨by rw [h1, hC0.out]; rfl, hS.out⟩
    · rw [h1] at hokE
      cases hokE
      go_wp2_with fail
      go_meet
      exact ⟨by rw [h1]; rfl, hS.out⟩
  case rest =>
  clear hS
  obtain ⟨rfl, hS⟩ := hcut
  obtain ⟨S2, hS2⟩ : ∃ x, Tr.sTo S1 = x := ⟨_, rfl⟩
  have hES2 := Lib.hid hS2
  have hsk : S2.op.kind = k := by rw [← hS2, ← hkS]; exact st_kind _ _ _ (fun _ _ => rfl)
  have hsw : ∀ y ∈ S2.ws, y.length ≤ 1000000 := by rw [← hS2]; exact fun y hy => hwS y (st_ws _ _ _ y hy)
  have hP0 := Lib.hid (hP.out.below hS.bel)
  go_upto_if 59 with fail
  go_cut [4, 6] (fun v' ok' wx => PSf w w.heap.size b S2 v' ok' wx)
  case first => as_aux_lemma =>
    generalize hcb : (S1.ok && decide (k = 3 ∨ k = 6) && !S1.ws.isEmpty) = cb
    cases cb with
    | true =>
      obtain ⟨⟨h1, hC⟩, hw0⟩ : (S1.ok = true ∧ decide (k = 3 ∨ k = 6) = true) ∧ S1.ws.isEmpty = false := by simpa using hcb
      obtain ⟨y, r', hw⟩ : ∃ y r', S1.ws = y :: r' := by
        cases hx : S1.ws with
        | nil => rw [hx] at hw0; cases hw0
        | cons y r' => exact ⟨y, r', rfl⟩
      have hyl := hwS y (by rw [hw]; exact List.mem_cons_self ..)
      have hst := Lib.hid (show S2 = _ from hS2.symm.trans (step_yes (f := Tr.fTo) h1 (by rw [hkS]; exact hC) hw))
      obtain ⟨bb, oo, cc, hv, hcap, hcm, hlt, hcell, hone⟩ := RdW.cons (hw ▸ hS.ws)
      clear hw0 hC hw hsw hwS hsk hkS hS2 hcb
      rw [hv] at hS
      subst hv
      replace hS := Lib.hid hS
      replace hone := Lib.hid hone
      replace h1 := Lib.hid h1
      have hU := fun W => unquoter_pair y W (by omega)
      obtain ⟨tx, htx⟩ : ∃ tx, (Tr.unq y).getD [] = tx := ⟨_, rfl⟩
      rw [htx] at hU
      rcases Bool.eq_false_or_eq_true (Tr.unq y).isSome with h2 | h2
      all_goals
        rw [h2] at hU
        simp only [if_true, Bool.false_eq_true, if_false] at hU
        have hst2 := Lib.hid (hst.out.trans (show _ = (⟨{ S1.op with dest := tx }, r', _⟩ : Tr.St) by unfold Tr.fTo; rw [htx, h2]))
        replace htx := Lib.hid htx
        replace h2 := Lib.hid h2
        replace hU := Lib.hid hU
        go_wp2_with fail
        refine (hU.out _).mono ?_
        rintro e w2 ⟨rfl, hb2⟩
        have hS2 := Lib.hid (hS.out.below hb2)
        have hone2 := Lib.hid (hone.out.below hb2)
        obtain ⟨ad0, cp0, bx, -⟩ := hS2.out.box
        have g := bx.get 2 _ rfl
        have gf := bx.frozen 2
        replace bx := Lib.hid bx
        go_wp2_with fail
        all_goals
          go_meet
          rw [hst2.out]
          refine PSf.put hS2.out hbh hbn 2 _ _ _ ?_ (fun ad cp x r f => ⟨ad, cp, by simpa [aggO] using x.set 2 (.string (S tx)), ((box_data x r).setCell 2 _).rd, f⟩)
          have h9 := hone2.out
          first | exact h9 | (rw [if_neg (by assumption)] at h9; exact h9) | (rw [if_pos (by first | rfl | assumption)] at h9; simpa [*] using h9)
    | false =>
      have hst := Lib.hid (show S2 = S1 from hS2.symm.trans (step_no (by rw [hkS]; exact hcb)))
      clear hsw hwS hsk hkS hS2 hcb
      replace hS := Lib.hid hS
      go_wp2_with fail
      go_meet
      rw [hst.out]
      exact hS.out
  case rest =>
  clear hS hP0 hkS hwS hS2
  try clear hokE
  have hS := hcut
  have hkS := hsk
  have hwS := hsw
  clear hcut hsk hsw
  go_upto_region 15 with fail
  -- step sOff
  have hokE := hS.ok
  go_cut [83] (fun c wx => c = .bool (S2.ok && decide (k = 7 ∨ k = 9) && !S2.ws.isEmpty) ∧ PSf w w.heap.size b S2 u4 u6 wx)
  case first => as_aux_lemma =>
    obtain ⟨ad, cp, hbx, -⟩ := hS.box
    have d0 := hbx.get 0 (.int .i64 S2.op.kind) rfl
    rw [hkS] at d0
    obtain ⟨va, vc, rfl⟩ := hS.ws.form
    clear hbx
    replace hkS := Lib.hid hkS
    replace hwS := Lib.hid hwS
    replace hS := Lib.hid hS
    rcases Bool.eq_false_or_eq_true S2.ok with h1 | h1
    · rw [h1] at hokE
      cases hokE
      by_cases hC : decide (k = 7 ∨ k = 9) = true
      · have hC' := of_decide_eq_true hC
        have hH := Lib.hid (fun w => hasOff_any k w true (by simpa using hC'))
        replace hC := Lib.hid hC
        clear hC'
        by_cases hw : S2.ws = []
        · have hlen : (S2.ws.length : Int) ≤ 0 := by rw [hw]; decide
          replace hw := Lib.hid hw
          go_wp2_with fail
          refine (hH.out _).mono ?_
          rintro e w0 ⟨rfl, rfl⟩
          go_wp2_with fail
          go_meet
          exact ⟨by rw [h1, hC.out, hw.out]; rfl, hS.out⟩
        · have hlen : (0 : Int) < (S2.ws.length : Int) := by
            have := List.length_pos_iff.2 hw
            omega
          have hlenN : 0 < S2.ws.length := by omega
          have hw' := Lib.hid (show S2.ws.isEmpty = false by cases hx : S2.ws with
            | nil => exact absurd hx hw
            | cons y r => rfl)
          clear hw
          go_wp2_with fail
          refine (hH.out _).mono ?_
          rintro e w0 ⟨rfl, rfl⟩
          go_wp2_with fail
          go_meet
          exact ⟨by rw [h1, hC.out, hw'.out]; first | rfl | (rw [decide_eq_true hlenN]; rfl), hS.out⟩
      · have hC0 : decide (k = 7 ∨ k = 9) = false := by simpa using hC
        have hC' := of_decide_eq_false hC0
        have hH := Lib.hid (fun w => hasOff_any k w false (by simpa using hC'))
        replace hC0 := Lib.hid hC0
        clear hC' hC
        go_wp2_with fail
        refine (hH.out _).mono ?_
        rintro e w0 ⟨rfl, rfl⟩
        go_wp2_with fail
        go_meet
        exact ⟨by rw [h1, hC0.out]; rfl, hS.out⟩
    · rw [h1] at hokE
      cases hokE
      go_wp2_with fail
      go_meet
      exact ⟨by rw [h1]; rfl, hS.out⟩
  case rest =>
  clear hS
  obtain ⟨rfl, hS⟩ := hcut
  obtain ⟨S3, hS3⟩ : ∃ x, Tr.sOff S2 = x := ⟨_, rfl⟩
  have hES3 := Lib.hid hS3
  have hsk : S3.op.kind = k := by rw [← hS3, ← hkS]; exact st_kind _ _ _ (fun _ _ => rfl)
  have hsw : ∀ y ∈ S3.ws, y.length ≤ 1000000 := by rw [← hS3]; exact fun y hy => hwS y (st_ws _ _ _ y hy)
  have hP0 := Lib.hid (hP.out.below hS.bel)
  go_upto_if 83 with fail
  go_cut [4, 6] (fun v' ok' wx => PSf w w.heap.size b S3 v' ok' wx)
  case first => as_aux_lemma =>
    generalize hcb : (S2.ok && decide (k = 7 ∨ k = 9) && !S2.ws.isEmpty) = cb
    cases cb with
    | true =>
      obtain ⟨⟨h1, hC⟩, hw0⟩ : (S2.ok = true ∧ decide (k = 7 ∨ k = 9) = true) ∧ S2.ws.isEmpty = false := by simpa using hcb
      obtain ⟨y, r', hw⟩ : ∃ y r', S2.ws = y :: r' := by
        cases hx : S2.ws with
        | nil => rw [hx] at hw0; cases hw0
        | cons y r' => exact ⟨y, r', rfl⟩
      have hyl := hwS y (by rw [hw]; exact List.mem_cons_self ..)
      have hst := Lib.hid (show S3 = _ from hS3.symm.trans (step_yes (f := Tr.fOff) h1 (by rw [hkS]; exact hC) hw))
      obtain ⟨bb, oo, cc, hv, hcap, hcm, hlt, hcell, hone⟩ := RdW.cons (hw ▸ hS.ws)
      clear hw0 hC hw hsw hwS hsk hkS hS3 hcb
      rw [hv] at hS
      subst hv
      replace hS := Lib.hid hS
      replace hone := Lib.hid hone
      replace h1 := Lib.hid h1
      · have hU := fun W hW => number_any y W hW (by omega)
        obtain ⟨⟨tn, tb⟩, htx⟩ : ∃ q, Tr.pnum y = q := ⟨_, rfl⟩
        rw [htx] at hU
        have hst2 := Lib.hid (hst.out.trans (show _ = (⟨{ S2.op with off := tn }, r', tb⟩ : Tr.St) by unfold Tr.fOff; rw [htx]))
        replace htx := Lib.hid htx
        replace hU := Lib.hid hU
        go_wp2_with fail
        refine (hU.out _ hP0.out).mono ?_
        rintro e w2 ⟨rfl, hb2⟩
        have hS2 := Lib.hid (hS.out.below hb2)
        have hone2 := Lib.hid (hone.out.below hb2)
        obtain ⟨ad0, cp0, bx, -⟩ := hS2.out.box
        have g := bx.get 3 _ rfl
        have gf := bx.frozen 3
        replace bx := Lib.hid bx
        go_wp2_with fail
        all_goals
          go_meet
          rw [hst2.out]
          refine PSf.put hS2.out hbh hbn 3 _ _ _ ?_ (fun ad cp x r f => ⟨ad, cp, by simpa [aggO] using x.set 3 (.int .i64 tn), ((box_data x r).setCell 3 _).rd, f⟩)
          have h9 := hone2.out
          first | exact h9 | (rw [if_neg (by assumption)] at h9; exact h9) | (rw [if_pos (by first | rfl | assumption)] at h9; simpa [*] using h9)
    | false =>
      have hst := Lib.hid (show S3 = S2 from hS3.symm.trans (step_no (by rw [hkS]; exact hcb)))
      clear hsw hwS hsk hkS hS3 hcb
      replace hS := Lib.hid hS
      go_wp2_with fail
      go_meet
      rw [hst.out]
      exact hS.out
  case rest =>
  clear hS hP0 hkS hwS hS3
  try clear hokE
  have hS := hcut
  have hkS := hsk
  have hwS := hsw
  clear hcut hsk hsw
  go_upto_region 18 with fail
  -- step sLen
  have hokE := hS.ok
  go_cut [104] (fun c wx => c = .bool (S3.ok && decide (k = 8 ∨ k = 9) && !S3.ws.isEmpty) ∧ PSf w w.heap.size b S3 u4 u6 wx)
  case first => as_aux_lemma =>
    obtain ⟨ad, cp, hbx, -⟩ := hS.box
    have d0 := hbx.get 0 (.int .i64 S3.op.kind) rfl
    rw [hkS] at d0
    obtain ⟨va, vc, rfl⟩ := hS.ws.form
    clear hbx
    replace hkS := Lib.hid hkS
    replace hwS := Lib.hid hwS
    replace hS := Lib.hid hS
    rcases Bool.eq_false_or_eq_true S3.ok with h1 | h1
    · rw [h1] at hokE
      cases hokE
      by_cases hC : decide (k = 8 ∨ k = 9) = true
      · have hC' := of_decide_eq_true hC
        have hH := Lib.hid (fun w => hasLen_any k w true (by simpa using hC'))
        replace hC := Lib.hid hC
        clear hC'
        by_cases hw : S3.ws = []
        · have hlen : (S3.ws.length : Int) ≤ 0 := by rw [hw]; decide
          replace hw := Lib.hid hw
          go_wp2_with fail
          refine (hH.out _).mono ?_
          rintro e w0 ⟨rfl, rfl⟩
          go_wp2_with fail
          go_meet
          exact ⟨by rw [h1, hC.out, hw.out]; rfl, hS.out⟩
        · have hlen : (0 : Int) < (S3.ws.length : Int) := by
            have := List.length_pos_iff.2 hw
            omega
          have hlenN : 0 < S3.ws.length := by omega
          have hw' := Lib.hid (show S3.ws.isEmpty = false by cases hx : S3.ws with
            | nil => exact absurd hx hw
            | cons y r => rfl)
          clear hw
          go_wp2_with fail
          refine (hH.out _).mono ?_
          rintro e w0 ⟨rfl, rfl⟩
          go_wp2_with fail
          go_meet
          exact ⟨by rw [h1, hC.out, hw'.out]; first | rfl | (rw [decide_eq_true hlenN]; rfl), hS.out⟩
      · have hC0 : decide (k = 8 ∨ k = 9) = false := by simpa using hC
        have hC' := of_decide_eq_false hC0
        have hH := Lib.hid (fun w => hasLen_any k w false (by simpa using hC'))
        replace hC0 := Lib.hid hC0
        clear hC' hC
        go_wp2_with fail
        refine (hH.out _).mono ?_
        rintro e w0 ⟨rfl, rfl⟩
        go_wp2_with fail
        go_meet
        exact ⟨by rw [h1, hC0.out]; rfl, hS.out⟩
    · rw [h1] at hokE
      cases hokE
      go_wp2_with fail
      go_meet
      exact ⟨by rw [h1]; rfl, hS.out⟩
  case rest =>
  clear hS
  obtain ⟨rfl, hS⟩ := hcut
  obtain ⟨S4, hS4⟩ : ∃ x, Tr.sLen S3 = x := ⟨_, rfl⟩
  have hES4 := Lib.hid hS4
  have hsk : S4.op.kind = k := by rw [← hS4, ← hkS]; exact st_kind _ _ _ (fun _ _ => rfl)
  have hsw : ∀ y ∈ S4.ws, y.length ≤ 1000000 := by rw [← hS4]; exact fun y hy => hwS y (st_ws _ _ _ y hy)
  have hP0 := Lib.hid (hP.out.below hS.bel)
  go_upto_if 104 with fail
  go_cut [4, 6] (fun v' ok' wx => PSf w w.heap.size b S4 v' ok' wx)
  case first => as_aux_lemma =>
    generalize hcb : (S3.ok && decide (k = 8 ∨ k = 9) && !S3.ws.isEmpty) = cb
    cases cb with
    | true =>
      obtain ⟨⟨h1, hC⟩, hw0⟩ : (S3.ok = true ∧ decide (k = 8 ∨ k = 9) = true) ∧ S3.ws.isEmpty = false := by simpa using hcb
      obtain ⟨y, r', hw⟩ : ∃ y r', S3.ws = y :: r' := by
        cases hx : S3.ws with
        | nil => rw [hx] at hw0; cases hw0
        | cons y r' => exact ⟨y, r', rfl⟩
      have hyl := hwS y (by rw [hw]; exact List.mem_cons_self ..)
      have hst := Lib.hid (show S4 = _ from hS4.symm.trans (step_yes (f := Tr.fLen) h1 (by rw [hkS]; exact hC) hw))
      obtain ⟨bb, oo, cc, hv, hcap, hcm, hlt, hcell, hone⟩ := RdW.cons (hw ▸ hS.ws)
      clear hw0 hC hw hsw hwS hsk hkS hS4 hcb
      rw [hv] at hS
      subst hv
      replace hS := Lib.hid hS
      replace hone := Lib.hid hone
      replace h1 := Lib.hid h1
      · have hU := fun W hW => number_any y W hW (by omega)
        obtain ⟨⟨tn, tb⟩, htx⟩ : ∃ q, Tr.pnum y = q := ⟨_, rfl⟩
        rw [htx] at hU
        have hst2 := Lib.hid (hst.out.trans (show _ = (⟨{ S3.op with len := tn }, r', tb⟩ : Tr.St) by unfold Tr.fLen; rw [htx]))
        replace htx := Lib.hid htx
        replace hU := Lib.hid hU
        go_wp2_with fail
        refine (hU.out _ hP0.out).mono ?_
        rintro e w2 ⟨rfl, hb2⟩
        have hS2 := Lib.hid (hS.out.below hb2)
        have hone2 := Lib.hid (hone.out.below hb2)
        obtain ⟨ad0, cp0, bx, -⟩ := hS2.out.box
        have g := bx.get 4 _ rfl
        have gf := bx.frozen 4
        replace bx := Lib.hid bx
        go_wp2_with fail
        all_goals
          go_meet
          rw [hst2.out]
          refine PSf.put hS2.out hbh hbn 4 _ _ _ ?_ (fun ad cp x r f => ⟨ad, cp, by simpa [aggO] using x.set 4 (.int .i64 tn), ((box_data x r).setCell 4 _).rd, f⟩)
          have h9 := hone2.out
          first | exact h9 | (rw [if_neg (by assumption)] at h9; exact h9) | (rw [if_pos (by first | rfl | assumption)] at h9; simpa [*] using h9)
    | false =>
      have hst := Lib.hid (show S4 = S3 from hS4.symm.trans (step_no (by rw [hkS]; exact hcb)))
      clear hsw hwS hsk hkS hS4 hcb
      replace hS := Lib.hid hS
      go_wp2_with fail
      go_meet
      rw [hst.out]
      exact hS.out
  case rest =>
  clear hS hP0 hkS hwS hS4
  try clear hokE
  have hS := hcut
  have hkS := hsk
  have hwS := hsw
  clear hcut hsk hsw
  go_upto_region 21 with fail
  -- step sData
  have hokE := hS.ok
  go_cut [125] (fun c wx => c = .bool (S4.ok && decide (k = 7) && !S4.ws.isEmpty) ∧ PSf w w.heap.size b S4 u4 u6 wx)
  case first => as_aux_lemma =>
    obtain ⟨ad, cp, hbx, -⟩ := hS.box
    have d0 := hbx.get 0 (.int .i64 S4.op.kind) rfl
    rw [hkS] at d0
    obtain ⟨va, vc, rfl⟩ := hS.ws.form
    clear hbx
    replace hkS := Lib.hid hkS
    replace hwS := Lib.hid hwS
    replace hS := Lib.hid hS
    rcases Bool.eq_false_or_eq_true S4.ok with h1 | h1
    · rw [h1] at hokE
      cases hokE
      by_cases hC : decide (k = 7) = true
      · have hC' := of_decide_eq_true hC
        have e13 : (k == 7) = true := by simp [hC']
        replace hC := Lib.hid hC
        clear hC'
        by_cases hw : S4.ws = []
        · have hlen : (S4.ws.length : Int) ≤ 0 := by rw [hw]; decide
          replace hw := Lib.hid hw
          go_wp2_with fail
          go_meet
          exact ⟨by rw [h1, hC.out, hw.out]; rfl, hS.out⟩
        · have hlen : (0 : Int) < (S4.ws.length : Int) := by
            have := List.length_pos_iff.2 hw
            omega
          have hlenN : 0 < S4.ws.length := by omega
          have hw' := Lib.hid (show S4.ws.isEmpty = false by cases hx : S4.ws with
            | nil => exact absurd hx hw
            | cons y r => rfl)
          clear hw
          go_wp2_with fail
          go_meet
          exact ⟨by rw [h1, hC.out, hw'.out]; first | rfl | (rw [decide_eq_true hlenN]; rfl), hS.out⟩
      · have hC0 : decide (k = 7) = false := by simpa using hC
        have hC' := of_decide_eq_false hC0
        have e13 : (k == 7) = false := by simpa using hC'
        replace hC0 := Lib.hid hC0
        clear hC' hC
        go_wp2_with fail
        go_meet
        exact ⟨by rw [h1, hC0.out]; rfl, hS.out⟩
    · rw [h1] at hokE
      cases hokE
      go_wp2_with fail
      go_meet
      exact ⟨by rw [h1]; rfl, hS.out⟩
  case rest =>
  clear hS
  obtain ⟨rfl, hS⟩ := hcut
  obtain ⟨S5, hS5⟩ : ∃ x, Tr.sData S4 = x := ⟨_, rfl⟩
  have hES5 := Lib.hid hS5
  have hsk : S5.op.kind = k := by rw [← hS5, ← hkS]; exact st_kind _ _ _ (fun _ _ => rfl)
  have hsw : ∀ y ∈ S5.ws, y.length ≤ 1000000 := by rw [← hS5]; exact fun y hy => hwS y (st_ws _ _ _ y hy)
  have hP0 := Lib.hid (hP.out.below hS.bel)
  go_upto_if 125 with fail
  go_cut [4, 6] (fun v' ok' wx => PSf w w.heap.size b S5 v' ok' wx)
  case first => as_aux_lemma =>
    generalize hcb : (S4.ok && decide (k = 7) && !S4.ws.isEmpty) = cb
    cases cb with
    | true =>
      obtain ⟨⟨h1, hC⟩, hw0⟩ : (S4.ok = true ∧ decide (k = 7) = true) ∧ S4.ws.isEmpty = false := by simpa using hcb
      obtain ⟨y, r', hw⟩ : ∃ y r', S4.ws = y :: r' := by
        cases hx : S4.ws with
        | nil => rw [hx] at hw0; cases hw0
        | cons y r' => exact ⟨y, r', rfl⟩
      have hyl := hwS y (by rw [hw]; exact List.mem_cons_self ..)
      have hst := Lib.hid (show S5 = _ from hS5.symm.trans (step_yes (f := Tr.fData) h1 (by rw [hkS]; exact hC) hw))
      obtain ⟨bb, oo, cc, hv, hcap, hcm, hlt, hcell, hone⟩ := RdW.cons (hw ▸ hS.ws)
      clear hw0 hC hw hsw hwS hsk hkS hS5 hcb
      rw [hv] at hS
      subst hv
      replace hS := Lib.hid hS
      replace hone := Lib.hid hone
      replace h1 := Lib.hid h1
      · have hU := fun W => data_any y W (by omega)
        have hbW : b < wc.heap.size := by obtain ⟨_, _, bx, _⟩ := hS.out.box; exact bx.lt
        rcases hq : Tr.unhexesX y with _ | dl
        · rw [hq] at hU
          have hst2 := Lib.hid (hst.out.trans (show _ = (⟨{ S4.op with data := _ }, r', _⟩ : Tr.St) by unfold Tr.fData; rw [hq] <;> rfl))
          replace hq := Lib.hid hq
          replace hU := Lib.hid hU
          go_wp2_with fail
          refine (hU.out _).mono ?_
          rintro e w2 ⟨⟨vd, rfl, hown⟩, hb2⟩
          have hrd : RdB w2 vd _ := Rd.of_own (xs := []) hown
          obtain ⟨aad, acp, rfl⟩ := hrd.len
          replace hown := Lib.hid hown
          clear hrd
          have hS2 := Lib.hid (hS.out.below hb2)
          have hone2 := Lib.hid (hone.out.below hb2)
          obtain ⟨ad0, cp0, bx, -⟩ := hS2.out.box
          have g := bx.get 5 _ rfl
          have gf := bx.frozen 5
          replace bx := Lib.hid bx
          go_wp2_with fail
          all_goals
            go_meet
            rw [hst2.out]
            refine PSf.put hS2.out hbh hbn 5 _ _ _ ?_ (fun ad cp x r f => ⟨aad, acp, by simpa [aggO] using x.set 5 (.slice aad _ acp), Rd.of_own (xs := []) (own_setFar hown.out hbW _), far_own hown.out hS.out.bel.size⟩)
            have h9 := hone2.out
            first | exact h9 | (rw [if_neg (by assumption)] at h9; exact h9) | (rw [if_pos (by first | rfl | assumption)] at h9; simpa [*] using h9)
        · rw [hq] at hU
          have hst2 := Lib.hid (hst.out.trans (show _ = (⟨{ S4.op with data := _ }, r', _⟩ : Tr.St) by unfold Tr.fData; rw [hq] <;> rfl))
          replace hq := Lib.hid hq
          replace hU := Lib.hid hU
          go_wp2_with fail
          refine (hU.out _).mono ?_
          rintro e w2 ⟨⟨vd, rfl, hown⟩, hb2⟩
          have hrd : RdB w2 vd _ := Rd.of_own (xs := dl) hown
          obtain ⟨aad, acp, rfl⟩ := hrd.len
          replace hown := Lib.hid hown
          clear hrd
          have hS2 := Lib.hid (hS.out.below hb2)
          have hone2 := Lib.hid (hone.out.below hb2)
          obtain ⟨ad0, cp0, bx, -⟩ := hS2.out.box
          have g := bx.get 5 _ rfl
          have gf := bx.frozen 5
          replace bx := Lib.hid bx
          go_wp2_with fail
          all_goals
            go_meet
            rw [hst2.out]
            refine PSf.put hS2.out hbh hbn 5 _ _ _ ?_ (fun ad cp x r f => ⟨aad, acp, by simpa [aggO] using x.set 5 (.slice aad _ acp), Rd.of_own (xs := dl) (own_setFar hown.out hbW _), far_own hown.out hS.out.bel.size⟩)
            have h9 := hone2.out
            first | exact h9 | (rw [if_neg (by assumption)] at h9; exact h9) | (rw [if_pos (by first | rfl | assumption)] at h9; simpa [*] using h9)
    | false =>
      have hst := Lib.hid (show S5 = S4 from hS5.symm.trans (step_no (by rw [hkS]; exact hcb)))
      clear hsw hwS hsk hkS hS5 hcb
      replace hS := Lib.hid hS
      go_wp2_with fail
      go_meet
      rw [hst.out]
      exact hS.out
  case rest =>
  clear hS hP0 hkS hwS hS5
  try clear hokE
  have hS := hcut
  have hkS := hsk
  have hwS := hsw
  clear hcut hsk hsw
  -- the end
  have hall : Tr.stAll s = S5 := by unfold Tr.stAll; rw [hS0.out, hES1.out, hES2.out, hES3.out, hES4.out, hES5.out]
  have hfit := hfit0.out
  have hsh := Tr.all_short s
  rw [hall] at hfit hsh
  have hpr : Tr.parseR s = if S5.ok = true ∧ S5.ws = [] ∧ Tr.print S5.op = (s, 0) then some S5.op else none := by unfold Tr.parseR; simp only [hall]
  have hlp := hsh.path
  have hld := hsh.dest
  obtain ⟨ad, cp, bx, rx, hfa⟩ := hS.box
  have hC := Lib.hid (printr_any S5.op (.slice ad S5.op.data.length cp) wc (hP.out.below hS.bel) hfit.in_ (by omega) (by omega) rx)
  obtain ⟨⟨LN1, LN2⟩, hLN⟩ : ∃ q, Tr.print S5.op = q := ⟨_, rfl⟩
  rw [hLN] at hC hpr
  replace hLN := Lib.hid hLN
  replace hpr := Lib.hid hpr
  clear hS0 hES1 hES2 hES3 hES4 hES5 hall hfit hsh hlp hld hkS hwS hfit0 hob
  obtain ⟨va, vc, rfl⟩ := hS.ws.form
  obtain ⟨S5o, S5w, S5k⟩ := S5
  have hokE := hS.ok
  dsimp only at *
  subst hokE
  have g0 := bx.get 0 _ rfl
  have g1 := bx.get 1 _ rfl
  have g2 := bx.get 2 _ rfl
  have g3 := bx.get 3 _ rfl
  have g4 := bx.get 4 _ rfl
  have g5 := bx.get 5 _ rfl
  replace bx := Lib.hid bx
  replace rx := Lib.hid rx
  replace hS := Lib.hid hS
  go_wp2_with fail
  refine hC.out.mono ?_
  rintro e w3 ⟨rfl, hb3⟩
  have hS3 := hS.out.below hb3
  have bx3 := bx.out.below hb3
  have rx3 := Lib.hid (rx.out.below hb3)
  have hR := hS3.res
  have hB3 := Lib.hid hS3.bel
  clear g0 g1 g2 g3 g4 g5 hS hS3 hb3 bx rx hP
  have g0 := bx3.get 0 _ rfl
  have d0 := hR.get 0 _ rfl
  have k0 := hR.frozen 0
  have g1 := bx3.get 1 _ rfl
  have d1 := hR.get 1 _ rfl
  have k1 := hR.frozen 1
  have g2 := bx3.get 2 _ rfl
  have d2 := hR.get 2 _ rfl
  have k2 := hR.frozen 2
  have g3 := bx3.get 3 _ rfl
  have d3 := hR.get 3 _ rfl
  have k3 := hR.frozen 3
  have g4 := bx3.get 4 _ rfl
  have d4 := hR.get 4 _ rfl
  have k4 := hR.frozen 4
  have g5 := bx3.get 5 _ rfl
  have d5 := hR.get 5 _ rfl
  have k5 := hR.frozen 5
  replace hR := Lib.hid hR
  replace bx3 := Lib.hid bx3
  clear hC
  cases S5k with
  | false =>
    have hfin := Lib.hid (show Tr.parseR s = none by rw [hpr.out, if_neg]; rintro ⟨q1, q2, q3⟩; cases q1)
    clear hpr
    go_wp2_with fail
    obtain ⟨hp6, hb6⟩ := put6 hR.out (.int .i64 0) (.string ⟨#[]⟩) (.string ⟨#[]⟩) (.int .i64 0) (.int .i64 0) (.slice none 0 0) hB3.out (Nat.le_refl _)
    refine bodyPost_ret (res26 hp6 rfl rfl) rfl ?_
    exact opRf_none hfin.out rfl hb6
  | true =>
    by_cases hw : S5w = []
    · have hlen : (S5w.length : Int) ≤ 0 := by rw [hw]; decide
      replace hw := Lib.hid hw
      by_cases h2 : LN2 = 0
      · by_cases h1 : LN1 = s
        · have hfin := Lib.hid (show Tr.parseR s = some S5o by rw [hpr.out, if_pos ⟨rfl, hw.out, by rw [h1, h2]⟩])
          have e1 : (LN1 == s) = true := by simpa using h1
          have e2 : (LN2 != 0) = false := by simpa using h2
          clear hpr h1 h2
          go_wp2_with fail
          refine bodyPost_ret (res26 (six_box hR.out rfl S5o ad cp) rfl rfl) rfl ?_
          exact opRf_some hfin.out rfl ((six_rd (rdX_of rx3.out hR.out noU8_zero) S5o ad cp).rd) (six_below hB3.out (Nat.le_refl _) S5o ad cp) hfa
        · have e1 : (LN1 == s) = false := by simpa using h1
          have e2 : (LN2 != 0) = false := by simpa using h2
          have hfin := Lib.hid (show Tr.parseR s = none by rw [hpr.out, if_neg]; rintro ⟨q1, q2, q3⟩; exact h1 (by injection q3))
          clear hpr h1 h2
          go_wp2_with fail
          obtain ⟨hp6, hb6⟩ := put6 hR.out (.int .i64 0) (.string ⟨#[]⟩) (.string ⟨#[]⟩) (.int .i64 0) (.int .i64 0) (.slice none 0 0) hB3.out (Nat.le_refl _)
          refine bodyPost_ret (res26 hp6 rfl rfl) rfl ?_
          exact opRf_none hfin.out rfl hb6
      · have e2 : (LN2 != 0) = true := by simpa using h2
        have hfin := Lib.hid (show Tr.parseR s = none by rw [hpr.out, if_neg]; rintro ⟨q1, q2, q3⟩; exact h2 (by injection q3))
        clear hpr h2
        go_wp2_with fail
        obtain ⟨hp6, hb6⟩ := put6 hR.out (.int .i64 0) (.string ⟨#[]⟩) (.string ⟨#[]⟩) (.int .i64 0) (.int .i64 0) (.slice none 0 0) hB3.out (Nat.le_refl _)
        refine bodyPost_ret (res26 hp6 rfl rfl) rfl ?_
        exact opRf_none hfin.out rfl hb6
    · have hlen : (0 : Int) < (S5w.length : Int) := by
        have := List.length_pos_iff.2 hw
        omega
      have hlenN : 0 < S5w.length := by omega
      have hfin := Lib.hid (show Tr.parseR s = none by rw [hpr.out, if_neg]; rintro ⟨q1, q2, q3⟩; exact hw q2)
      clear hpr hw
      go_wp2_with fail
      obtain ⟨hp6, hb6⟩ := put6 hR.out (.int .i64 0) (.string ⟨#[]⟩) (.string ⟨#[]⟩) (.int .i64 0) (.int .i64 0) (.slice none 0 0) hB3.out (Nat.le_refl _)
      refine bodyPost_ret (res26 hp6 rfl rfl) rfl ?_
      exact opRf_none hfin.out rfl hb6
end Go.Proofs.YtpoongljokbgcaaDoor
