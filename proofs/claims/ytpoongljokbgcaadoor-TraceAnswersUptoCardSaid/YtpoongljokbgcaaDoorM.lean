import Derived.Test.YtpoongljokbgcaaDoorL
import Derived.Test.YtpoongljokbgcaaDoorI
namespace Go.Proofs.YtpoongljokbgcaaDoor
open Go.RowKit
namespace Tr
def isDig (c : UInt8) : Bool := decide (48 ≤ c.toNat) && decide (c.toNat ≤ 57)
def uval (l : List UInt8) : Nat := l.foldl (fun u c => 10 * u + (c.toNat - 48)) 0
/-- The number of decimal digits, and whether the text is the number's own. -/
def pnum (s : List UInt8) : Int × Bool :=
  let d := Lib.trimPrefix s [45]
  if d.all isDig && decide (d.length ≤ 19) then
    let n := wrap64 (uval d)
    let m := if Lib.hasPrefix s [45] then wrap64 (-n) else n
    (m, Lib.itoa m == s)
  else (0, false)
end Tr
theorem uval_take (l : List UInt8) (k : Nat) (h : k < l.length) : Tr.uval (l.take (k + 1)) = 10 * Tr.uval (l.take k) + (l[k].toNat - 48) := by
  unfold Tr.uval; rw [List.take_succ_eq_append_getElem h, List.foldl_append]; rfl
theorem all_take (l : List UInt8) (k : Nat) (h : k < l.length) : (l.take (k + 1)).all Tr.isDig = ((l.take k).all Tr.isDig && Tr.isDig l[k]) := by
  rw [List.take_succ_eq_append_getElem h, List.all_append]; simp
theorem all_no (l : List UInt8) (k : Nat) (h : k < l.length) (hc : Tr.isDig l[k] = false) : l.all Tr.isDig = false := by
  rw [List.all_eq_false]; exact ⟨l[k], List.getElem_mem h, by rw [hc]; decide⟩
theorem uval_lt (l : List UInt8) (h : l.all Tr.isDig = true) : Tr.uval l < 10 ^ l.length := by
  unfold Tr.uval
  suffices ∀ (l : List UInt8) (u : Nat) (k : Nat), l.all Tr.isDig = true → u < 10 ^ k → l.foldl (fun u c => 10 * u + (c.toNat - 48)) u < 10 ^ (k + l.length) by
    simpa using this l 0 0 h (by simp)
  intro l
  induction l with
  | nil => intro u k _ hu; simpa using hu
  | cons c l ih =>
    intro u k hl hu
    simp only [List.all_cons, Bool.and_eq_true] at hl
    have hc := hl.1
    unfold Tr.isDig at hc
    simp only [Bool.and_eq_true, decide_eq_true_eq] at hc
    have := ih (10 * u + (c.toNat - 48)) (k + 1) hl.2 (by rw [Nat.pow_succ]; omega)
    rw [List.foldl_cons, List.length_cons, show k + (l.length + 1) = k + 1 + l.length by omega]
    exact this
theorem uval_bound (l : List UInt8) (h : l.all Tr.isDig = true) (hl : l.length ≤ 18) : Tr.uval l < 1000000000000000000 :=
  Nat.lt_of_lt_of_le (uval_lt l h) (Nat.pow_le_pow_right (by decide) hl : 10 ^ l.length ≤ 10 ^ 18)
/-- What parseNum answers. -/
def NumBool (r : Int × Bool) (w : World) (e : Ending) (w' : World) : Prop := e = .returned (.tuple #[.int .i64 r.1, .bool r.2]) ∧ Below w.heap.size w w'
set_option maxRecDepth 100000 in
set_option maxHeartbeats 1000000 in
theorem parseNum_any (s : List UInt8) (w : World) (hs : s.length ≤ 140737488355328) :
    Calls Tryd.prog 47 #[.string (S s)] w (NumBool (Tr.pnum s) w) := by
  obtain ⟨d, hd⟩ : ∃ d, Lib.trimPrefix s [45] = d := ⟨_, rfl⟩
  have hdl : d.length ≤ s.length := by rw [← hd]; exact Lib.trimPrefix_le _ _
  have hsl : d.length ≤ 140737488355328 := by omega
  clear hdl
  obtain ⟨g, hg⟩ : ∃ g, Lib.hasPrefix s [45] = g := ⟨_, rfl⟩
  have hp : Tr.pnum s = (if d.all Tr.isDig && decide (d.length ≤ 19) then (if g then wrap64 (-wrap64 (Tr.uval d)) else wrap64 (Tr.uval d), Lib.itoa (if g then wrap64 (-wrap64 (Tr.uval d)) else wrap64 (Tr.uval d)) == s) else (0, false)) := by
    unfold Tr.pnum; rw [hd, hg]
  replace hd := Lib.hid hd
  replace hg := Lib.hid hg
  replace hp := Lib.hid hp
  go_enter Tryd.func47, Tryd.ntmps47
  go_wp2_with fail
  refine (cutPrefix_S s [45] _).mono ?_
  rw [hd.out, hg.out]
  rintro e w0 ⟨rfl, rfl⟩
  go_wp2_with fail
  go_loop [6, 17] (fun u k => ∃ i : Nat, i ≤ d.length ∧ i ≤ 19 ∧ k = .int .i64 i ∧ u = .int .u64 (Tr.uval (d.take i)) ∧ (d.take i).all Tr.isDig = true) (fun _ k => d.length - (intOf k).toNat)
  case atStart => exact ⟨0, Nat.zero_le _, by omega, rfl, rfl, rfl⟩
  case round =>
    obtain ⟨i, hi, hi19, rfl, rfl, hall⟩ := hrel
    by_cases hlt : i < d.length
    · have hut := Lib.hid (uval_take d i hlt)
      have hat := Lib.hid (all_take d i hlt)
      obtain ⟨c, hc⟩ : ∃ c, d[i] = c := ⟨_, rfl⟩
      rw [hc] at hut hat
      have hcn : c.toNat < 256 := c.toNat_lt
      by_cases h18 : i ≤ 18
      · obtain ⟨U, hU⟩ : ∃ U, Tr.uval (d.take i) = U := ⟨_, rfl⟩
        have hUb : U < 1000000000000000000 := by rw [← hU]; exact uval_bound _ hall (by rw [List.length_take]; omega)
        rw [hU] at hut ⊢
        replace hU := Lib.hid hU
        have hall' := Lib.hid hall
        clear hall
        by_cases hdig : 48 ≤ (c.toNat : Int) ∧ (c.toNat : Int) ≤ 57
        · obtain ⟨hd1, hd2⟩ := hdig
          have hid : Tr.isDig c = true := by unfold Tr.isDig; simp; omega
          replace hid := Lib.hid hid
          go_wp2_with fail
          go_round
          case rel => exact ⟨i + 1, by omega, by omega, by go_num, by rw [hut.out]; congr 1; omega, by rw [hat.out, hall'.out, hid.out]; rfl⟩
          case measure => simp [intOf]; omega
        · have hno := Lib.hid (show d.all Tr.isDig = false by
            refine all_no d i hlt ?_
            rw [hc]; unfold Tr.isDig
            rw [Bool.and_eq_false_iff, decide_eq_false_iff_not, decide_eq_false_iff_not]; omega)
          have hfin := Lib.hid (show Tr.pnum s = (0, false) by rw [hp.out, hno.out]; rfl)
          by_cases h1 : (c.toNat : Int) < 48
          · go_wp2_with fail
            go_ret2
            exact ⟨by rw [hfin.out]; rfl, Below.refl _ _⟩
          · have h2 : 57 < (c.toNat : Int) := by omega
            go_wp2_with fail
            go_ret2
            exact ⟨by rw [hfin.out]; rfl, Below.refl _ _⟩
      · obtain ⟨U, hU⟩ : ∃ U, Tr.uval (d.take i) = U := ⟨_, rfl⟩
        rw [hU]
        have hfin := Lib.hid (show Tr.pnum s = (0, false) by
          rw [hp.out, show decide (d.length ≤ 19) = false by rw [decide_eq_false_iff_not]; omega, Bool.and_false]; rfl)
        clear hU hall hut hat
        by_cases h1 : (c.toNat : Int) < 48
        · go_wp2_with fail
          go_ret2
          exact ⟨by rw [hfin.out]; rfl, Below.refl _ _⟩
        · by_cases h2 : 57 < (c.toNat : Int)
          · go_wp2_with fail
            go_ret2
            exact ⟨by rw [hfin.out]; rfl, Below.refl _ _⟩
          · go_wp2_with fail
            go_ret2
            exact ⟨by rw [hfin.out]; rfl, Below.refl _ _⟩
    · have hi' : i = d.length := by omega
      rw [hi', List.take_length] at hall
      have hfin := Lib.hid (show Tr.pnum s = (if g then wrap64 (-wrap64 (Tr.uval d)) else wrap64 (Tr.uval d), Lib.itoa (if g then wrap64 (-wrap64 (Tr.uval d)) else wrap64 (Tr.uval d)) == s) by
        rw [hp.out, hall, show decide (d.length ≤ 19) = true by rw [decide_eq_true_eq]; omega]; rfl)
      subst hi'
      rw [List.take_length]
      obtain ⟨U, hU⟩ : ∃ U, Tr.uval d = U := ⟨_, rfl⟩
      rw [hU] at hfin ⊢
      clear hU hall hi
      obtain ⟨N, hN⟩ : ∃ N, wrap64 (U : Int) = N := ⟨_, rfl⟩
      rw [hN] at hfin
      have hN1 : -9223372036854775808 ≤ N ∧ N ≤ 9223372036854775807 := by rw [← hN]; unfold wrap64; omega
      cases g with
      | false =>
        simp only [Bool.false_eq_true, if_false] at hfin
        replace hN1 := Lib.hid hN1
        go_wp2_with fail
        refine (num_any N _ hN1.out.1 hN1.out.2).mono ?_
        rintro e w1 ⟨rfl, hb⟩
        go_wp2_with fail
        go_ret2
        exact ⟨by rw [hfin.out]; rfl, hb⟩
      | true =>
        simp only [if_true] at hfin
        obtain ⟨M, hM⟩ : ∃ M, wrap64 (-N) = M := ⟨_, rfl⟩
        rw [hM] at hfin
        have hM1 : -9223372036854775808 ≤ M ∧ M ≤ 9223372036854775807 := by rw [← hM]; unfold wrap64; omega
        replace hN1 := Lib.hid hN1
        replace hM1 := Lib.hid hM1
        go_wp2_with fail
        refine (num_any M _ hM1.out.1 hM1.out.2).mono ?_
        rintro e w1 ⟨rfl, hb⟩
        go_wp2_with fail
        go_ret2
        exact ⟨by rw [hfin.out]; rfl, hb⟩
end Go.Proofs.YtpoongljokbgcaaDoor
