/- The reference's number of a word (slipwayref27.number), printed by wip/tools/number67.py. -/
import Derived.Test.YtpoongljokbgcaaDoorBa
namespace Go.Proofs.YtpoongljokbgcaaDoor
open Go.RowKit
theorem numBool_mk {r : Int × Bool} {n : Int} {b : Bool} {w : World} {e : Ending} {w' : World} (h : r = (n, b)) (he : e = .returned (.tuple #[.int .i64 n, .bool b])) (hb : Below w.heap.size w w') : NumBool r w e w' := by
  subst h; exact ⟨he, hb⟩
theorem itoa0 : Lib.itoa 0 = [48] := by
  unfold Lib.itoa; rw [if_neg (by omega), show (0 : Int).toNat = 0 from rfl, Lib.decDigits_one (by omega)]; rfl
theorem pnum_nil : Tr.pnum [] = (0, false) := by
  unfold Tr.pnum
  rw [show Lib.trimPrefix [] [45] = [] from rfl, show Lib.hasPrefix [] [45] = false from rfl]
  simp [Tr.uval, wrap64, itoa0]
set_option maxRecDepth 100000 in
set_option maxHeartbeats 4000000 in
theorem number_neg (s d : List UInt8) (hpos : 0 < s.length) (hs0 : s[0] = 45) (hdr : s.drop 1 = d) (htl : s.tail = d) (hdl : d.length ≤ s.length) (w : World) (hP : Pw w) (hs : s.length ≤ 4000000)
    (hp : Tr.pnum s = (if d.all Tr.isDig && decide (d.length ≤ 19) then (wrap64 (-wrap64 (Tr.uval d)), Lib.itoa (wrap64 (-wrap64 (Tr.uval d))) == s) else (0, false))) :
    Calls Tryd.prog 67 #[.string (S s)] w (NumBool (Tr.pnum s) w) := by
  replace hp := Lib.hid hp
  replace hP := Lib.hid hP
  have hpi : (0 : Int) < (s.length : Int) := by omega
  by_cases h19 : 19 < d.length
  · have hfin := Lib.hid (show Tr.pnum s = (0, false) by
      rw [hp.out, show decide (d.length ≤ 19) = false by rw [decide_eq_false_iff_not]; omega, Bool.and_false]; rfl)
    have h19i : (19 : Int) < (d.length : Int) := by omega
    go_enter Tryd.func67, Tryd.ntmps67
    go_wp2_with fail
    go_ret2
    exact numBool_mk hfin.out rfl (Below.refl _ _)
  have hl19 : d.length ≤ 19 := by omega
  have hl19i : (d.length : Int) ≤ 19 := by omega
  go_enter Tryd.func67, Tryd.ntmps67
  go_wp2_with fail
  go_loopw [6, 7] (fun u k wr => ∃ i : Nat, i ≤ d.length ∧ k = .int .i64 i ∧ u = .int .u64 (Tr.uval (d.take i)) ∧ (d.take i).all Tr.isDig = true ∧ w = wr) (fun _ k _ => d.length - (intOf k).toNat)
  case atStart => exact ⟨0, Nat.zero_le _, rfl, rfl, rfl, rfl⟩
  case round =>
    obtain ⟨i, hi, rfl, rfl, hall, rfl⟩ := hrel
    by_cases hlt : i < d.length
    · have hut := Lib.hid (uval_take d i hlt)
      have hat := Lib.hid (all_take d i hlt)
      obtain ⟨c, hc⟩ : ∃ c, d[i] = c := ⟨_, rfl⟩
      rw [hc] at hut hat
      have hcn : c.toNat < 256 := c.toNat_lt
      obtain ⟨U, hU⟩ : ∃ U, Tr.uval (d.take i) = U := ⟨_, rfl⟩
      have hUb : U < 1000000000000000000 := by rw [← hU]; exact uval_bound _ hall (by rw [List.length_take]; omega)
      rw [hU] at hut ⊢
      replace hU := Lib.hid hU
      have hall' := Lib.hid hall
      clear hall
      by_cases hdig : 48 ≤ (c.toNat : Int) ∧ (c.toNat : Int) ≤ 57
      · obtain ⟨hd1, hd2⟩ := hdig
        have hid : Tr.isDig c = true := by unfold Tr.isDig; simp; omega
        replace hid := Lib.hid hid
        go_wp2_with fail
        go_roundw
        case rel => exact ⟨i + 1, by omega, by go_num, by rw [hut.out]; congr 1; omega, by rw [hat.out, hall'.out, hid.out]; rfl, trivial⟩
        case measure => simp [intOf]; omega
      · have hno := Lib.hid (show d.all Tr.isDig = false by
          refine all_no d i hlt ?_
          rw [hc]; unfold Tr.isDig
          rw [Bool.and_eq_false_iff, decide_eq_false_iff_not, decide_eq_false_iff_not]; omega)
        have hfin := Lib.hid (show Tr.pnum s = (0, false) by rw [hp.out, hno.out]; rfl)
        by_cases h1 : (c.toNat : Int) < 48
        · go_wp2_with fail
          go_ret2
          exact numBool_mk hfin.out rfl (Below.refl _ _)
        · have h2 : 57 < (c.toNat : Int) := by omega
          go_wp2_with fail
          go_ret2
          exact numBool_mk hfin.out rfl (Below.refl _ _)
    · obtain rfl : i = d.length := by omega
      rw [List.take_length] at hall ⊢
      have hfin := Lib.hid (show Tr.pnum s = (wrap64 (-wrap64 (Tr.uval d)), Lib.itoa (wrap64 (-wrap64 (Tr.uval d))) == s) by
        rw [hp.out, hall, show decide (d.length ≤ 19) = true by rw [decide_eq_true_eq]; omega]; rfl)
      obtain ⟨U, hU⟩ : ∃ U, Tr.uval d = U := ⟨_, rfl⟩
      rw [hU] at hfin ⊢
      clear hU hall hi
      obtain ⟨N, hN⟩ : ∃ N, wrap64 (U : Int) = N := ⟨_, rfl⟩
      rw [hN] at hfin
      have hN1 : in64 N := by rw [← hN]; unfold wrap64 in64; omega
      obtain ⟨M, hM⟩ : ∃ M, wrap64 (-N) = M := ⟨_, rfl⟩
      rw [hM] at hfin
      have hM1 : in64 M := by rw [← hM]; unfold wrap64 in64; omega
      have hC := numr_any M w hP.out hM1
      replace hC := Lib.hid hC
      obtain ⟨hN1, hN2⟩ := hN1
      go_wp2_with fail
      refine hC.out.mono ?_
      rintro e w1 ⟨rfl, hb⟩
      go_wp2_with fail
      go_ret2
      exact numBool_mk hfin.out rfl hb
set_option maxRecDepth 100000 in
set_option maxHeartbeats 4000000 in
theorem number_pos (s : List UInt8) (hpos : 0 < s.length) (hs0 : ((s[0].toNat : Int) == 45) = false) (w : World) (hP : Pw w) (hs : s.length ≤ 4000000)
    (hp : Tr.pnum s = (if s.all Tr.isDig && decide (s.length ≤ 19) then (wrap64 (Tr.uval s), Lib.itoa (wrap64 (Tr.uval s)) == s) else (0, false))) :
    Calls Tryd.prog 67 #[.string (S s)] w (NumBool (Tr.pnum s) w) := by
  replace hp := Lib.hid hp
  replace hP := Lib.hid hP
  have hpi : (0 : Int) < (s.length : Int) := by omega
  by_cases h19 : 19 < s.length
  · have hfin := Lib.hid (show Tr.pnum s = (0, false) by
      rw [hp.out, show decide (s.length ≤ 19) = false by rw [decide_eq_false_iff_not]; omega, Bool.and_false]; rfl)
    have h19i : (19 : Int) < (s.length : Int) := by omega
    go_enter Tryd.func67, Tryd.ntmps67
    go_wp2_with fail
    go_ret2
    exact numBool_mk hfin.out rfl (Below.refl _ _)
  have hl19 : s.length ≤ 19 := by omega
  have hl19i : (s.length : Int) ≤ 19 := by omega
  go_enter Tryd.func67, Tryd.ntmps67
  go_wp2_with fail
  go_loopw [6, 7] (fun u k wr => ∃ i : Nat, i ≤ s.length ∧ k = .int .i64 i ∧ u = .int .u64 (Tr.uval (s.take i)) ∧ (s.take i).all Tr.isDig = true ∧ w = wr) (fun _ k _ => s.length - (intOf k).toNat)
  case atStart => exact ⟨0, Nat.zero_le _, rfl, rfl, rfl, rfl⟩
  case round =>
    obtain ⟨i, hi, rfl, rfl, hall, rfl⟩ := hrel
    by_cases hlt : i < s.length
    · have hut := Lib.hid (uval_take s i hlt)
      have hat := Lib.hid (all_take s i hlt)
      obtain ⟨c, hc⟩ : ∃ c, s[i] = c := ⟨_, rfl⟩
      rw [hc] at hut hat
      have hcn : c.toNat < 256 := c.toNat_lt
      obtain ⟨U, hU⟩ : ∃ U, Tr.uval (s.take i) = U := ⟨_, rfl⟩
      have hUb : U < 1000000000000000000 := by rw [← hU]; exact uval_bound _ hall (by rw [List.length_take]; omega)
      rw [hU] at hut ⊢
      replace hU := Lib.hid hU
      have hall' := Lib.hid hall
      clear hall
      by_cases hdig : 48 ≤ (c.toNat : Int) ∧ (c.toNat : Int) ≤ 57
      · obtain ⟨hd1, hd2⟩ := hdig
        have hid : Tr.isDig c = true := by unfold Tr.isDig; simp; omega
        replace hid := Lib.hid hid
        go_wp2_with fail
        go_roundw
        case rel => exact ⟨i + 1, by omega, by go_num, by rw [hut.out]; congr 1; omega, by rw [hat.out, hall'.out, hid.out]; rfl, trivial⟩
        case measure => simp [intOf]; omega
      · have hno := Lib.hid (show s.all Tr.isDig = false by
          refine all_no s i hlt ?_
          rw [hc]; unfold Tr.isDig
          rw [Bool.and_eq_false_iff, decide_eq_false_iff_not, decide_eq_false_iff_not]; omega)
        have hfin := Lib.hid (show Tr.pnum s = (0, false) by rw [hp.out, hno.out]; rfl)
        by_cases h1 : (c.toNat : Int) < 48
        · go_wp2_with fail
          go_ret2
          exact numBool_mk hfin.out rfl (Below.refl _ _)
        · have h2 : 57 < (c.toNat : Int) := by omega
          go_wp2_with fail
          go_ret2
          exact numBool_mk hfin.out rfl (Below.refl _ _)
    · obtain rfl : i = s.length := by omega
      rw [List.take_length] at hall ⊢
      have hfin := Lib.hid (show Tr.pnum s = (wrap64 (Tr.uval s), Lib.itoa (wrap64 (Tr.uval s)) == s) by
        rw [hp.out, hall, show decide (s.length ≤ 19) = true by rw [decide_eq_true_eq]; omega]; rfl)
      obtain ⟨U, hU⟩ : ∃ U, Tr.uval s = U := ⟨_, rfl⟩
      rw [hU] at hfin ⊢
      clear hU hall hi
      obtain ⟨N, hN⟩ : ∃ N, wrap64 (U : Int) = N := ⟨_, rfl⟩
      rw [hN] at hfin
      have hN1 : in64 N := by rw [← hN]; unfold wrap64 in64; omega
      have hC := numr_any N w hP.out hN1
      replace hC := Lib.hid hC
      go_wp2_with fail
      refine hC.out.mono ?_
      rintro e w1 ⟨rfl, hb⟩
      go_wp2_with fail
      go_ret2
      exact numBool_mk hfin.out rfl hb
theorem number_any (s : List UInt8) (w : World) (hP : Pw w) (hs : s.length ≤ 4000000) :
    Calls Tryd.prog 67 #[.string (S s)] w (NumBool (Tr.pnum s) w) := by
  match s with
  | [] =>
    have hfin := Lib.hid pnum_nil
    have hC := Lib.hid (numr_any 0 w hP ⟨by decide, by decide⟩)
    have hi := Lib.hid itoa0
    clear hP hs
    go_enter Tryd.func67, Tryd.ntmps67
    go_wp2_with fail
    refine wp_loop_rounds 1 ?_
    rw [rounds_succ]
    go_wp2_with fail
    refine hC.out.mono ?_
    rintro e w1 ⟨rfl, hb⟩
    rw [hi.out]
    go_wp2_with fail
    go_ret2
    exact numBool_mk hfin.out rfl hb
  | c :: r =>
    by_cases h : c = 45
    · subst h
      refine number_neg (45 :: r) r (by simp) rfl rfl rfl (by simp) w hP hs ?_
      unfold Tr.pnum; rw [trim_yes, has_yes]; simp only [if_true]
    · refine number_pos (c :: r) (by simp) (byte_ne c 45 h) w hP hs ?_
      unfold Tr.pnum; rw [trim_no 45 c r h, has_no 45 c r h]; simp only [Bool.false_eq_true, if_false]
end Go.Proofs.YtpoongljokbgcaaDoor
