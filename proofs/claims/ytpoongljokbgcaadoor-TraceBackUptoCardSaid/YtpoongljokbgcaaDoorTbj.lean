import Derived.Test.YtpoongljokbgcaaDoorTbg
import Derived.Test.YtpoongljokbgcaaDoorTbc
import Derived.Test.YtpoongljokbgcaaDoorTbh
import Derived.Laws.MakeOwn
/- The reference's number of a word (slipwayref27.number), printed by wip/tools/number67.py. -/
namespace Go.Proofs.YtpoongljokbgcaaDoor
open Go.RowKit
theorem numBool_mk {r : Int × Bool} {n : Int} {b : Bool} {w : World} {e : Ending} {w' : World} (h : r = (n, b)) (he : e = .returned (.tuple #[.int .i64 n, .bool b])) (hb : Below w.heap.size w w') : NumBool r w e w' := by
  subst h; exact ⟨he, hb⟩
theorem itoa0 : Lib.itoa 0 = [48] := by
  unfold Lib.itoa; rw [if_neg (by omega), show (0 : Int).toNat = 0 from rfl, Lib.decDigits_one (by omega)]; rfl
theorem pnum_nil : Tr.pnum [] = (0, false) := by
  unfold Tr.pnum
  rw [show Lib.trimPrefix [] [45] = [] from rfl, show Lib.hasPrefix [] [45] = false from rfl]
  simp [Tr.uval, wrap64, itoa0]
set_option maxRecDepth 100000 in
set_option maxHeartbeats 4000000 in
theorem number_neg (s d : List UInt8) (hpos : 0 < s.length) (hs0 : s[0] = 45) (hdr : s.drop 1 = d) (htl : s.tail = d) (hdl : d.length ≤ s.length) (w : World) (hP : Pw w) (hs : s.length ≤ 4000000)
    (hp : Tr.pnum s = (if d.all Tr.isDig && decide (d.length ≤ 19) then (wrap64 (-wrap64 (Tr.uval d)), Lib.itoa (wrap64 (-wrap64 (Tr.uval d))) == s) else (0, false))) :
    Calls Tryd.prog 67 #[.string (S s)] w (NumBool (Tr.pnum s) w) := by
  replace hp := Lib.hid hp
  replace hP := Lib.hid hP
  have hpi : (0 : Int) < (s.length : Int) := by omega
  by_cases h19 : 19 < d.length
  · have hfin := Lib.hid (show Tr.pnum s = (0, false) by
      rw [hp.out, show decide (d.length ≤ 19) = false by rw [decide_eq_false_iff_not]; omega, Bool.and_false]; rfl)
    have h19i : (19 : Int) < (d.length : Int) := by omega
    go_enter Tryd.func67, Tryd.ntmps67
    go_wp2_with fail
    go_ret2
    exact numBool_mk hfin.out rfl (Below.refl _ _)
  have hl19 : d.length ≤ 19 := by omega
  have hl19i : (d.length : Int) ≤ 19 := by omega
  go_enter Tryd.func67, Tryd.ntmps67
  go_wp2_with fail
  go_loopw [6, 7] (fun u k wr => ∃ i : Nat, i ≤ d.length ∧ k = .int .i64 i ∧ u = .int .u64 (Tr.uval (d.take i)) ∧ (d.take i).all Tr.isDig = true ∧ w = wr) (fun _ k _ => d.length - (intOf k).toNat)
  case atStart => exact ⟨0, Nat.zero_le _, rfl, rfl, rfl, rfl⟩
  case round =>
    obtain ⟨i, hi, rfl, rfl, hall, rfl⟩ := hrel
    by_cases hlt : i < d.length
    · have hut := Lib.hid (uval_take d i hlt)
      have hat := Lib.hid (all_take d i hlt)
      obtain ⟨c, hc⟩ : ∃ c, d[i] = c := ⟨_, rfl⟩
      rw [hc] at hut hat
      have hcn : c.toNat < 256 := c.toNat_lt
      obtain ⟨U, hU⟩ : ∃ U, Tr.uval (d.take i) = U := ⟨_, rfl⟩
      have hUb : U < 1000000000000000000 := by rw [← hU]; exact uval_bound _ hall (by rw [List.length_take]; omega)
      rw [hU] at hut ⊢
      replace hU := Lib.hid hU
      have hall' := Lib.hid hall
      clear hall
      by_cases hdig : 48 ≤ (c.toNat : Int) ∧ (c.toNat : Int) ≤ 57
      · obtain ⟨hd1, hd2⟩ := hdig
        have hid : Tr.isDig c = true := by unfold Tr.isDig; simp; omega
        replace hid := Lib.hid hid
        go_wp2_with fail
        go_roundw
        case rel => exact ⟨i + 1, by omega, by go_num, by rw [hut.out]; congr 1; omega, by rw [hat.out, hall'.out, hid.out]; rfl, trivial⟩
        case measure => simp [intOf]; omega
      · have hno := Lib.hid (show d.all Tr.isDig = false by
          refine all_no d i hlt ?_
          rw [hc]; unfold Tr.isDig
          rw [Bool.and_eq_false_iff, decide_eq_false_iff_not, decide_eq_false_iff_not]; omega)
        have hfin := Lib.hid (show Tr.pnum s = (0, false) by rw [hp.out, hno.out]; rfl)
        by_cases h1 : (c.toNat : Int) < 48
        · go_wp2_with fail
          go_ret2
          exact numBool_mk hfin.out rfl (Below.refl _ _)
        · have h2 : 57 < (c.toNat : Int) := by omega
          go_wp2_with fail
          go_ret2
          exact numBool_mk hfin.out rfl (Below.refl _ _)
    · obtain rfl : i = d.length := by omega
      rw [List.take_length] at hall ⊢
      have hfin := Lib.hid (show Tr.pnum s = (wrap64 (-wrap64 (Tr.uval d)), Lib.itoa (wrap64 (-wrap64 (Tr.uval d))) == s) by
        rw [hp.out, hall, show decide (d.length ≤ 19) = true by rw [decide_eq_true_eq]; omega]; rfl)
      obtain ⟨U, hU⟩ : ∃ U, Tr.uval d = U := ⟨_, rfl⟩
      rw [hU] at hfin ⊢
      clear hU hall hi
      obtain ⟨N, hN⟩ : ∃ N, wrap64 (U : Int) = N := ⟨_, rfl⟩
      rw [hN] at hfin
      have hN1 : in64 N := by rw [← hN]; unfold wrap64 in64; omega
      obtain ⟨M, hM⟩ : ∃ M, wrap64 (-N) = M := ⟨_, rfl⟩
      rw [hM] at hfin
      have hM1 : in64 M := by rw [← hM]; unfold wrap64 in64; omega
      have hC := numr_any M w hP.out hM1
      replace hC := Lib.hid hC
      obtain ⟨hN1, hN2⟩ := hN1
      go_wp2_with fail
      refine hC.out.mono ?_
      rintro e w1 ⟨rfl, hb⟩
      go_wp2_with fail
      go_ret2
      exact numBool_mk hfin.out rfl hb
set_option maxRecDepth 100000 in
set_option maxHeartbeats 4000000 in
theorem number_pos (s : List UInt8) (hpos : 0 < s.length) (hs0 : ((s[0].toNat : Int) == 45) = false) (w : World) (hP : Pw w) (hs : s.length ≤ 4000000)
    (hp : Tr.pnum s = (if s.all Tr.isDig && decide (s.length ≤ 19) then (wrap64 (Tr.uval s), Lib.itoa (wrap64 (Tr.uval s)) == s) else (0, false))) :
    Calls Tryd.prog 67 #[.string (S s)] w (NumBool (Tr.pnum s) w) := by
  replace hp := Lib.hid hp
  replace hP := Lib.hid hP
  have hpi : (0 : Int) < (s.length : Int) := by omega
  by_cases h19 : 19 < s.length
  · have hfin := Lib.hid (show Tr.pnum s = (0, false) by
      rw [hp.out, show decide (s.length ≤ 19) = false by rw [decide_eq_false_iff_not]; omega, Bool.and_false]; rfl)
    have h19i : (19 : Int) < (s.length : Int) := by omega
    go_enter Tryd.func67, Tryd.ntmps67
    go_wp2_with fail
    go_ret2
    exact numBool_mk hfin.out rfl (Below.refl _ _)
  have hl19 : s.length ≤ 19 := by omega
  have hl19i : (s.length : Int) ≤ 19 := by omega
  go_enter Tryd.func67, Tryd.ntmps67
  go_wp2_with fail
  go_loopw [6, 7] (fun u k wr => ∃ i : Nat, i ≤ s.length ∧ k = .int .i64 i ∧ u = .int .u64 (Tr.uval (s.take i)) ∧ (s.take i).all Tr.isDig = true ∧ w = wr) (fun _ k _ => s.length - (intOf k).toNat)
  case atStart => exact ⟨0, Nat.zero_le _, rfl, rfl, rfl, rfl⟩
  case round =>
    obtain ⟨i, hi, rfl, rfl, hall, rfl⟩ := hrel
    by_cases hlt : i < s.length
    · have hut := Lib.hid (uval_take s i hlt)
      have hat := Lib.hid (all_take s i hlt)
      obtain ⟨c, hc⟩ : ∃ c, s[i] = c := ⟨_, rfl⟩
      rw [hc] at hut hat
      have hcn : c.toNat < 256 := c.toNat_lt
      obtain ⟨U, hU⟩ : ∃ U, Tr.uval (s.take i) = U := ⟨_, rfl⟩
      have hUb : U < 1000000000000000000 := by rw [← hU]; exact uval_bound _ hall (by rw [List.length_take]; omega)
      rw [hU] at hut ⊢
      replace hU := Lib.hid hU
      have hall' := Lib.hid hall
      clear hall
      by_cases hdig : 48 ≤ (c.toNat : Int) ∧ (c.toNat : Int) ≤ 57
      · obtain ⟨hd1, hd2⟩ := hdig
        have hid : Tr.isDig c = true := by unfold Tr.isDig; simp; omega
        replace hid := Lib.hid hid
        go_wp2_with fail
        go_roundw
        case rel => exact ⟨i + 1, by omega, by go_num, by rw [hut.out]; congr 1; omega, by rw [hat.out, hall'.out, hid.out]; rfl, trivial⟩
        case measure => simp [intOf]; omega
      · have hno := Lib.hid (show s.all Tr.isDig = false by
          refine all_no s i hlt ?_
          rw [hc]; unfold Tr.isDig
          rw [Bool.and_eq_false_iff, decide_eq_false_iff_not, decide_eq_false_iff_not]; omega)
        have hfin := Lib.hid (show Tr.pnum s = (0, false) by rw [hp.out, hno.out]; rfl)
        by_cases h1 : (c.toNat : Int) < 48
        · go_wp2_with fail
          go_ret2
          exact numBool_mk hfin.out rfl (Below.refl _ _)
        · have h2 : 57 < (c.toNat : Int) := by omega
          go_wp2_with fail
          go_ret2
          exact numBool_mk hfin.out rfl (Below.refl _ _)
    · obtain rfl : i = s.length := by omega
      rw [List.take_length] at hall ⊢
      have hfin := Lib.hid (show Tr.pnum s = (wrap64 (Tr.uval s), Lib.itoa (wrap64 (Tr.uval s)) == s) by
        rw [hp.out, hall, show decide (s.length ≤ 19) = true by rw [decide_eq_true_eq]; omega]; rfl)
      obtain ⟨U, hU⟩ : ∃ U, Tr.uval s = U := ⟨_, rfl⟩
      rw [hU] at hfin ⊢
      clear hU hall hi
      obtain ⟨N, hN⟩ : ∃ N, wrap64 (U : Int) = N := ⟨_, rfl⟩
      rw [hN] at hfin
      have hN1 : in64 N := by rw [← hN]; unfold wrap64 in64; omega
      have hC := numr_any N w hP.out hN1
      replace hC := Lib.hid hC
      go_wp2_with fail
      refine hC.out.mono ?_
      rintro e w1 ⟨rfl, hb⟩
      go_wp2_with fail
      go_ret2
      exact numBool_mk hfin.out rfl hb
theorem number_any (s : List UInt8) (w : World) (hP : Pw w) (hs : s.length ≤ 4000000) :
    Calls Tryd.prog 67 #[.string (S s)] w (NumBool (Tr.pnum s) w) := by
  match s with
  | [] =>
    have hfin := Lib.hid pnum_nil
    have hC := Lib.hid (numr_any 0 w hP ⟨by decide, by decide⟩)
    have hi := Lib.hid itoa0
    clear hP hs
    go_enter Tryd.func67, Tryd.ntmps67
    go_wp2_with fail
    refine wp_loop_rounds 1 ?_
    rw [rounds_succ]
    go_wp2_with fail
    refine hC.out.mono ?_
    rintro e w1 ⟨rfl, hb⟩
    rw [hi.out]
    go_wp2_with fail
    go_ret2
    exact numBool_mk hfin.out rfl hb
  | c :: r =>
    by_cases h : c = 45
    · subst h
      refine number_neg (45 :: r) r (by simp) rfl rfl rfl (by simp) w hP hs ?_
      unfold Tr.pnum; rw [trim_yes, has_yes]; simp only [if_true]
    · refine number_pos (c :: r) (by simp) (byte_ne c 45 h) w hP hs ?_
      unfold Tr.pnum; rw [trim_no 45 c r h, has_no 45 c r h]; simp only [Bool.false_eq_true, if_false]
end Go.Proofs.YtpoongljokbgcaaDoor
/- The reference's bytes of a word (slipwayref27.data). -/
namespace Go.Proofs.YtpoongljokbgcaaDoor
open Go.RowKit
theorem unhexes_odd : ∀ (n : Nat) (l : List UInt8), l.length = 2 * n + 1 → Tr.unhexes l = none := by
  intro n
  induction n with
  | zero =>
    intro l h
    match l, h with
    | [_], _ => rfl
  | succ n ih =>
    intro l h
    match l, h with
    | a :: b :: r, h =>
      simp only [List.length_cons] at h
      unfold Tr.unhexes
      rw [ih r (by omega)]
      cases Tr.unh a b <;> rfl
theorem getD_app0 (p : List UInt8) (c : UInt8) (r : List UInt8) : (p ++ c :: r).getD p.length 0 = c := by simp
theorem getD_app1 (p : List UInt8) (b c : UInt8) (r : List UInt8) : (p ++ b :: c :: r).getD (p.length + 1) 0 = c := by simp
set_option maxRecDepth 100000 in
set_option maxHeartbeats 4000000 in
theorem data_core (q : List UInt8) (m : Nat) (hq : q.length = 2 * m) (w : World) (hs : q.length ≤ 4000000) :
    Calls Tryd.prog 68 #[.string (S (120 :: q))] w (BytesBool (Tr.unhexes q) w) := by
  obtain ⟨i0, hi0, hz0, hz1, hz2⟩ := info_parts infoByte
  obtain ⟨s, hsq⟩ : ∃ s, 120 :: q = s := ⟨_, rfl⟩
  have hsl : s.length = 2 * m + 1 := by rw [← hsq, List.length_cons, hq]
  have hs0 : ∀ h : 0 < s.length, s[0]'h = 120 := by rw [← hsq]; intro h; rfl
  have e0 : ((s.length : Int) % 2 != 1) = false := by rw [bne_eq_false_iff_eq]; omega
  have hL : s.length ≤ 4000001 := by rw [← hsq, List.length_cons]; omega
  have hL1 : (0 : Int) < (s.length : Int) := by omega
  have hst : 120 :: q = [120] ++ q := rfl
  rw [hsq]
  rw [hsq] at hst
  have hpos : 0 < s.length := by omega
  replace hs0 := hs0 hpos
  replace hsl := Lib.hid hsl
  replace hq := Lib.hid hq
  replace hst := Lib.hid hst
  clear hsq
  go_enter Tryd.func68, Tryd.ntmps68
  go_wp2_with fail
  go_loopw [4, 5] (fun b k wr => ∃ acc pre rest : List UInt8, s = pre ++ rest ∧ k = .int .i64 pre.length ∧ wr.ownsRow w.heap.size 5 1 b acc.length (Lib.byteCells acc) ∧ Below w.heap.size w wr ∧ pre.length = 2 * acc.length + 1 ∧ Tr.unhexes q = (Tr.unhexes rest).map (acc ++ ·))
    (fun _ k _ => s.length - (intOf k).toNat)
  case atStart => exact ⟨[], [120], q, hst.out, rfl, World.ownsRow_nil _ _ _ _, Below.refl _ _, rfl, by simp⟩
  case round =>
    clear hs0 e0 hL1 hpos
    obtain ⟨acc, pre, rest, hpre, rfl, hown, hW, hlen, hu⟩ := hrel
    have hsz := hW.size
    have hll : s.length = pre.length + rest.length := by rw [hpre]; simp
    have hsl' := hsl.out
    match rest with
    | [] =>
      replace hu := Lib.hid (show Tr.unhexes q = some acc by rw [hu]; simp [Tr.unhexes])
      simp only [List.length_nil, Nat.add_zero] at hll
      have hge : ¬ ((pre.length : Int) < (s.length : Int)) := by omega
      replace hpre := Lib.hid hpre
      replace hll := Lib.hid hll
      replace hlen := Lib.hid hlen
      clear hsl'
      go_wp2_with fail
      go_ret2
      rw [hu.out]
      exact ⟨⟨_, rfl, hown⟩, hW⟩
    | [c] =>
      exfalso
      simp only [List.length_cons, List.length_nil] at hll
      omega
    | a :: b :: r =>
      simp only [List.length_cons] at hll
      have hlt : pre.length < s.length := by omega
      have hlt1 : pre.length + 1 < s.length := by omega
      have f9 := Lib.hid (show s.getD pre.length 0 = a by rw [hpre]; exact getD_app0 pre a _)
      have f10 := Lib.hid (show s.getD (pre.length + 1) 0 = b by rw [hpre]; exact getD_app1 pre a b r)
      have g0 := get_at pre a _ s hpre hlt
      have g1 := get_at1 pre a b r s hpre hlt1
      have hacc : acc.length ≤ 4000001 := by omega
      replace hll := Lib.hid hll
      replace hlen := Lib.hid hlen
      clear hsl'
      cases hd : Tr.unh a b with
      | none =>
        replace hu := Lib.hid (show Tr.unhexes q = none by rw [hu]; simp [Tr.unhexes, hd])
        replace hpre := Lib.hid hpre
        have hx : ¬ (Tr.nib a < 16 ∧ Tr.nib b < 16) := by
          intro h; unfold Tr.unh at hd; rw [if_pos h] at hd; cases hd
        clear hd
        by_cases ha : Tr.nib a < 16
        · have hb : ¬ Tr.nib b < 16 := fun h => hx ⟨ha, h⟩
          have h1 := Lib.hid (index_lt a ha)
          have h2 := Lib.hid (index_ge b hb)
          clear hx hb
          go_wp2_with fail
          refine (hexr_eq a _ _ h1.out).mono ?_
          rintro e w0 ⟨rfl, rfl⟩
          go_wp2_with fail
          refine (hexr_eq b _ _ h2.out).mono ?_
          rintro e w0 ⟨rfl, rfl⟩
          go_wp2_with fail
          go_ret2
          rw [hu.out]
          exact ⟨⟨_, rfl, World.ownsRow_nil _ _ _ _⟩, hW⟩
        · have h1 := Lib.hid (index_ge a ha)
          clear hx ha
          go_wp2_with fail
          refine (hexr_eq a _ _ h1.out).mono ?_
          rintro e w0 ⟨rfl, rfl⟩
          go_wp2_with fail
          go_ret2
          rw [hu.out]
          exact ⟨⟨_, rfl, World.ownsRow_nil _ _ _ _⟩, hW⟩
      | some d =>
        replace hu := Lib.hid (show Tr.unhexes q = (Tr.unhexes r).map ((acc ++ [d]) ++ ·) by rw [hu]; simp [Tr.unhexes, hd, Function.comp_def])
        replace hpre := Lib.hid hpre
        have hx : Tr.nib a < 16 ∧ Tr.nib b < 16 := by
          by_cases hx : Tr.nib a < 16 ∧ Tr.nib b < 16
          · exact hx
          · unfold Tr.unh at hd; rw [if_neg hx] at hd; cases hd
        have H := Lib.hid (show 16 * Tr.nib a + Tr.nib b = d.toNat by
          unfold Tr.unh at hd; rw [if_pos hx] at hd; rw [← Option.some.inj hd]; simp; omega)
        clear hd
        obtain ⟨ha, hb⟩ := hx
        have h1 := Lib.hid (index_lt a ha)
        have h2 := Lib.hid (index_lt b hb)
        obtain ⟨x, hx⟩ : ∃ x, Tr.nib a = x := ⟨_, rfl⟩
        obtain ⟨y, hy⟩ : ∃ y, Tr.nib b = y := ⟨_, rfl⟩
        rw [hx] at h1 ha H; rw [hy] at h2 hb H
        clear hx hy
        have e1 := u8_in (16 * (x : Int) + y) (by omega)
        go_wp2_with fail
        refine (hexr_eq a _ _ h1.out).mono ?_
        rintro e w0 ⟨rfl, rfl⟩
        go_wp2_with fail
        refine (hexr_eq b _ _ h2.out).mono ?_
        rintro e w0 ⟨rfl, rfl⟩
        go_wp2_with fail
        have e2 := IntWalk.i64_in (16 * (x : Int)) (by omega)
        have e3 := IntWalk.i64_in (16 * (x : Int) + y) (by omega)
        have f1 := IntWalk.i64_in ((pre.length : Int) + 1) (by omega)
        have f3 : (0 : Int) ≤ (pre.length : Int) + 1 := by omega
        have f5 : (pre.length : Int) + 1 < (s.length : Int) := by omega
        have f7 : ((pre.length : Int) + 1).toNat = pre.length + 1 := by omega
        replace f9 := f9.out
        replace f10 := f10.out
        go_region_held3 (fun _ => True) (exact trivial)
          (first
            | (go_at_call 38; (first | (with_reducible refine (hexr_eq a _ _ h1.out).mono ?_) | (with_reducible refine (hexr_eq b _ _ h2.out).mono ?_)); rintro e w0 ⟨rfl, rfl⟩)
            | (refine step_append_lies _ (by rfl) _ _ _ (by rfl) w.heap.size 5 i0 _ 1 1 Tryd.underlying28 hi0 hz0 hz1 hz2 rfl (by omega) _ acc.length (Lib.byteCells acc) (by rfl) ((hown.alloc _).drew) ⟨wr.heap.size, 0, none⟩ 1 1 [.int .u8 (16 * (x : Int) + y)] (by rfl) (by rfl) (World.news_of_block (cs := #[.int .u8 (16 * (x : Int) + y)]) (t := 5) (fr := (0, 0)) (heap_alloc_new wr _)) (by simp [Value.oneCell']) (by omega) (by unfold maxLen; omega) (by omega) (by simp; omega) (wr.heap.size + 1) (by simp) ?_; intro gg cap w1 hown1 hgrow hat hlt))
        all_goals
          go_wp2_with fail
          go_roundw
          case rel => exact ⟨acc ++ [d], pre ++ [a, b], r, by rw [hpre.out]; simp, by simp, by rw [show (16 * (x : Int) + y) = (d.toNat : Int) from by have := H.out; omega] at hown1; simpa [Lib.byteCells] using hown1, below_push hW (Nat.le_refl _) hown hgrow, by have := hlen.out; simp; omega, hu.out⟩
          case measure => simp [intOf]; omega
set_option maxRecDepth 100000 in
set_option maxHeartbeats 1000000 in
theorem data_any (s : List UInt8) (w : World) (hs : s.length ≤ 4000000) :
    Calls Tryd.prog 68 #[.string (S s)] w (BytesBool (Tr.unhexesX s) w) := by
  by_cases hev : s.length % 2 = 1
  · match s, hev with
    | c :: q, hev =>
      simp only [List.length_cons] at hev hs
      by_cases hc : c = 120
      · subst hc
        exact data_core q (q.length / 2) (by omega) w (by omega)
      · have hfin := Lib.hid (show Tr.unhexesX (c :: q) = none by unfold Tr.unhexesX; split <;> simp_all)
        have e0 : (((c :: q).length : Int) % 2 != 1) = false := by rw [bne_eq_false_iff_eq, List.length_cons]; omega
        have e1 : ((c.toNat : Int) != 120) = true := byte_bne c 120 hc
        rw [List.length_cons, Int.natCast_add, Int.natCast_one] at e0
        clear hc
        go_enter Tryd.func68, Tryd.ntmps68
        go_wp2_with fail
        go_ret2
        rw [hfin.out]
        exact ⟨⟨_, rfl, World.ownsRow_nil _ _ _ _⟩, Below.refl _ _⟩
  · have hfin := Lib.hid (show Tr.unhexesX s = none by
      unfold Tr.unhexesX
      split
      · rename_i q
        simp only [List.length_cons] at hev
        exact unhexes_odd (q.length / 2) q (by omega)
      · rfl)
    have e0 : ((s.length : Int) % 2 != 1) = true := by rw [bne_iff_ne]; omega
    clear hev hs
    go_enter Tryd.func68, Tryd.ntmps68
    go_wp2_with fail
    go_ret2
    rw [hfin.out]
    exact ⟨⟨_, rfl, World.ownsRow_nil _ _ _ _⟩, Below.refl _ _⟩
end Go.Proofs.YtpoongljokbgcaaDoor
/- The reference's bytes as a word (slipwayref27.bytes). -/
namespace Go.Proofs.YtpoongljokbgcaaDoor
open Go.RowKit
theorem digs_at (n : Nat) (hn : n < 16) (W : World) : (Instr.index 9 (.string ⟨#[48, 49, 50, 51, 52, 53, 54, 55, 56, 57, 97, 98, 99, 100, 101, 102]⟩) (.int .u8 n)).run Tryd.prog W = .ok (.int .u8 (Tr.dg n).toNat) W := by
  have := run_index_S (P := Tryd.prog) W 9 Tr.dgs .u8 n Tryd.underlying9
  rw [if_pos ⟨by omega, by simp [Tr.dgs]; omega⟩] at this
  exact this
theorem digs_div (c : UInt8) (W : World) : (Instr.index 9 (.string ⟨#[48, 49, 50, 51, 52, 53, 54, 55, 56, 57, 97, 98, 99, 100, 101, 102]⟩) (.int .u8 ((c.toNat : Int) / 16))).run Tryd.prog W = .ok (.int .u8 (Tr.dg (c.toNat / 16)).toNat) W := by
  have hc : c.toNat < 256 := c.toNat_lt
  have := digs_at (c.toNat / 16) (by omega) W
  rw [show ((c.toNat / 16 : Nat) : Int) = (c.toNat : Int) / 16 by omega] at this
  exact this
theorem digs_mod (c : UInt8) (W : World) : (Instr.index 9 (.string ⟨#[48, 49, 50, 51, 52, 53, 54, 55, 56, 57, 97, 98, 99, 100, 101, 102]⟩) (.int .u8 ((c.toNat : Int) % 16))).run Tryd.prog W = .ok (.int .u8 (Tr.dg (c.toNat % 16)).toNat) W := by
  have := digs_at (c.toNat % 16) (by omega) W
  rw [show ((c.toNat % 16 : Nat) : Int) = (c.toNat : Int) % 16 by omega] at this
  exact this
set_option maxRecDepth 100000 in
set_option maxHeartbeats 4000000 in
theorem bytesr_any (v : Value) (l : List UInt8) (w : World) (hr : RdB w v l) (hl : 2 * l.length + 1 ≤ 140737488355328) :
    Calls Tryd.prog 64 #[v] w (TextBelow (Tr.hexes l) w) := by
  obtain ⟨i0, hi0, hz0, hz1, hz2⟩ := info_parts infoByte
  have hat : l ≠ [] → _ := hr.at
  obtain ⟨a, cap, rfl⟩ := hr.len
  obtain ⟨W0, hmk, hown0, hg0⟩ := run_make_own (P := Tryd.prog) w w.heap.size 28 5 i0 (.int .u8 0) 1 Tryd.underlying28 hi0 hz0 hz1 .i64 .i64 (2 * l.length + 1) (by rw [hz2]; omega) (by unfold maxLen; omega) (Nat.le_refl _)
  have hB0 : Below w.heap.size w W0 := (Below.refl _ w).grown hg0 (Nat.le_refl _) (fun k hk => by cases hk)
  rw [show ((2 * l.length + 1 : Nat) : Int) = 1 + 2 * (l.length : Int) by omega] at hmk
  have hz := hB0.size
  replace hat := Lib.hid hat
  replace hB0 := Lib.hid hB0
  clear hr hg0
  go_enter Tryd.func64, Tryd.ntmps64
  go_wp2_with (at_builtin; go_must (refine wpList_append_lies _ rfl _ _ 28 rfl w.heap.size 5 i0 (.int .u8 0) 1 1 Tryd.underlying28 hi0 hz0 hz1 hz2 rfl (by decide) (.slice (some ⟨w.heap.size, 0, none⟩) 0 (2 * l.length + 1)) 0 [] rfl (hown0.alloc _) ⟨W0.heap.size, 0, none⟩ 1 1 [.int .u8 120] rfl rfl (World.news_of_block (heap_alloc_new W0 (.cells #[.int .u8 120] 5))) (by simp [Value.oneCell']) (by omega) (by unfold maxLen; omega) (by omega) (by rw [World.size_alloc]; omega) _ rfl ?_); intro vg vc w1 hown1 hgrow _ _)
  have hB1 : Below w.heap.size w w1 := (hB0.out.alloc hz (.cells #[.int .u8 120] 5)).grown hgrow (by rw [World.size_alloc]; omega) (fun k hk => by cases hk; exact Nat.le_refl _)
  go_loopw [3, 4] (fun o k wr => ∃ i : Nat, i ≤ l.length ∧ k = .int .i64 i ∧ wr.ownsRow w.heap.size 5 1 o (1 + 2 * i) (Lib.byteCells (120 :: (l.take i).flatMap Tr.hexB)) ∧ Below w.heap.size w wr)
    (fun _ k _ => l.length - (intOf k).toNat)
  case atStart => exact ⟨0, Nat.zero_le _, rfl, hown1, hB1⟩
  case round =>
    clear hmk hown0 hz hown1 hgrow hB1
    obtain ⟨i, hi, rfl, hown, hW⟩ := hrel
    have hsz := hW.size
    by_cases hlt : i < l.length
    · have hne : l ≠ [] := by intro h; rw [h] at hlt; simp at hlt
      obtain ⟨b, o, cap', hv, hcap, hb, hcell⟩ := hat.out hne
      cases hv
      have hc0 := hcell i hlt
      rw [← hW.cell (p := ⟨b, o + i, none⟩) hb] at hc0
      clear hcell hat hne
      have hts := Lib.hid (take_hex l i hlt)
      obtain ⟨c, hc⟩ : ∃ c, l[i] = c := ⟨_, rfl⟩
      rw [hc] at hts hc0
      unfold byteV at hc0
      replace hc := Lib.hid hc
      have hcn : c.toNat < 256 := c.toNat_lt
      have e2 := u8_and15 c.toNat hcn
      have i1 := digs_div c
      have i2 := digs_mod c
      have hI0 : (0 : Int) ≤ (i : Int) := by omega
      have hI1 : (i : Int) < (l.length : Int) := by omega
      obtain ⟨p, hp⟩ : ∃ p, Tr.dg (c.toNat / 16) = p := ⟨_, rfl⟩
      obtain ⟨q, hq⟩ : ∃ q, Tr.dg (c.toNat % 16) = q := ⟨_, rfl⟩
      rw [hp] at i1
      rw [hq] at i2
      replace hp := Lib.hid hp
      replace hq := Lib.hid hq
      go_wp2_with fail
      have hbw : b < wr.heap.size := by omega
      have hne : some b ≠ Value.ownBlock _ := fun h => by have := (hown.lt _ h.symm).1; omega
      have hN := Lib.hid (World.news_of_block (w := wr.alloc (.cells #[.int .u8 p.toNat, .int .u8 q.toNat] 5)) (cs := #[.int .u8 p.toNat, .int .u8 q.toNat]) (t := 5) (fr := (0, 0)) (heap_alloc_new wr _))
      go_region_held3 (fun w' => w'.cell? ⟨b, o + i, none⟩ = some (.int .u8 c.toNat))
        (first | assumption | (rw [World.cell?_alloc_lt _ _ _ (by simp; omega)]; assumption) | (refine (hgrow.cell_far _ (by show b < (wr.alloc _).heap.size; rw [World.size_alloc]; omega) hne).trans ?_; show (wr.alloc _).cell? _ = _; rw [World.cell?_alloc_lt _ _ _ (by simp; omega)]; exact hc0) | go_keep)
        ((refine step_append_lies _ (by rfl) (.tmp 19) (.tmp 32) 28 (by rfl) w.heap.size 5 i0 _ 1 1 Tryd.underlying28 hi0 hz0 hz1 hz2 rfl (by omega) _ (1 + 2 * i) (Lib.byteCells (120 :: (l.take i).flatMap Tr.hexB)) (by rfl) ((hown.alloc _).drew) ⟨wr.heap.size, 0, none⟩ 2 2 [.int .u8 p.toNat, .int .u8 q.toNat] (by rfl) (by rfl) hN.out (by simp [Value.oneCell']) (by omega) (by unfold maxLen; omega) (by omega) (by simp; omega) (wr.heap.size + 1) (by simp) ?_; intro gg cc w5 hown5 hgrow hat hlt5))
      all_goals
        go_wp2_with fail
        go_roundw
        case rel =>
          refine ⟨i + 1, by omega, by go_num, ?_, (((hW.alloc hsz _).drew).grown hgrow (by show w.heap.size ≤ (wr.alloc _).heap.size; rw [World.size_alloc]; omega) (fun k hk => (hown.lt k hk).1))⟩
          have e9 : Lib.byteCells (120 :: (l.take (i + 1)).flatMap Tr.hexB) = Lib.byteCells (120 :: (l.take i).flatMap Tr.hexB) ++ [.int .u8 p.toNat, .int .u8 q.toNat] := by
            rw [hts.out]; unfold Tr.hexB; rw [hp.out, hq.out]; simp [Lib.byteCells]
          rw [e9, show 1 + 2 * (i + 1) = 1 + 2 * i + 2 by omega]
          exact hown5
        case measure => simp [intOf]; omega
    · have hi' : i = l.length := by omega
      subst hi'
      rw [List.take_length] at hown
      have hL : (120 :: l.flatMap Tr.hexB).length = 1 + 2 * l.length := by rw [List.length_cons, hexflat_len]; omega
      have hcv := convert_rd (P := Tryd.prog) Tryd.underlying28 Tryd.underlying5 Tryd.underlying9 (Rd.of_own (enc := byteV) (xs := 120 :: l.flatMap Tr.hexB) (by rw [hL]; exact hown))
      replace hL := Lib.hid hL
      go_wp2_with fail
      go_ret
      exact ⟨rfl, hW⟩
end Go.Proofs.YtpoongljokbgcaaDoor
