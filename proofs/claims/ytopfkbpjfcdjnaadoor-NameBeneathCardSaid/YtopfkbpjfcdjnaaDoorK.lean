/- Which names may be: the plain law, the two walks of Check. -/
import Derived.Test.YtopfkbpjfcdjnaaDoorI
import Derived.Test.YtopfkbpjfcdjnaaDoorProg
import Derived.LoopTactic
namespace Go.Proofs.YtopfkbpjfcdjnaaDoor
open Go.RowKit
namespace Nm
def bad (c : UInt8) : Bool := c == 47 || c == 0
def check (l : List UInt8) : Int :=
  if l = [] ∨ l = [46] ∨ l = [46, 46] then 216 else if l.any bad then 216 else if 48 < l.length then 215 else 0
theorem any_take (l : List UInt8) (i : Nat) (h : i < l.length) (ht : (l.take i).any bad = false) (hc : bad l[i] = false) : (l.take (i + 1)).any bad = false := by
  rw [List.take_succ_eq_append_getElem h, List.any_append, ht]
  simp [hc]
theorem any_hit (l : List UInt8) (i : Nat) (h : i < l.length) (hc : bad l[i] = true) : l.any bad = true := by
  rw [List.any_eq_true]
  exact ⟨l[i], List.getElem_mem h, hc⟩
theorem bad_spell (c : UInt8) : bad c = (((c.toNat : Int) == 47) || ((c.toNat : Int) == 0)) := by
  unfold bad
  by_cases h : c = 47
  · subst h; rfl
  by_cases h0 : c = 0
  · subst h0; rfl
  have h1 : ((c.toNat : Int) == 47) = false := by
    rw [beq_eq_false_iff_ne]; intro e; exact h (UInt8.toNat_inj.1 (by have : c.toNat = 47 := by omega
                                                                      simpa using this))
  have h2 : ((c.toNat : Int) == 0) = false := by
    rw [beq_eq_false_iff_ne]; intro e; exact h0 (UInt8.toNat_inj.1 (by have : c.toNat = 0 := by omega
                                                                       simpa using this))
  simp [h1, h2, h, h0]
end Nm
/-- A number; the world is as it was. -/
def Num (n : Int) (w : World) (e : Ending) (w' : World) : Prop := e = .returned (.int .i64 n) ∧ w' = w
set_option maxHeartbeats 1000000 in
theorem check_any (l : List UInt8) (w : World) (hl : l.length ≤ 140737488355328) : Calls Tryd.prog 29 #[.string (S l)] w (Num (Nm.check l) w) := by
  by_cases h0 : l = []
  · subst h0
    go_enter Tryd.func29, Tryd.ntmps29
    go_wp2
    go_ret
    exact ⟨rfl, rfl⟩
  by_cases h1 : l = [46]
  · subst h1
    go_enter Tryd.func29, Tryd.ntmps29
    go_wp2
    go_ret
    exact ⟨rfl, rfl⟩
  by_cases h2 : l = [46, 46]
  · subst h2
    go_enter Tryd.func29, Tryd.ntmps29
    go_wp2
    go_ret
    exact ⟨rfl, rfl⟩
  have H := Lib.hid (show Nm.check l = if l.any Nm.bad then 216 else if 48 < l.length then 215 else 0 by unfold Nm.check; rw [if_neg (by simp [h0, h1, h2])])
  have n0 : (l == []) = false := by simpa using h0
  have n1 : (l == [46]) = false := by simpa using h1
  have n2 : (l == [46, 46]) = false := by simpa using h2
  clear h0 h1 h2
  go_enter Tryd.func29, Tryd.ntmps29
  go_wp2
  go_loopw [13] (fun k wr => wr = w ∧ ∃ i : Nat, i ≤ l.length ∧ k = .int .i64 i ∧ (l.take i).any Nm.bad = false) (fun k _ => l.length - (intOf k).toNat)
  case atStart => exact ⟨rfl, 0, Nat.zero_le _, rfl, by simp⟩
  case round =>
    obtain ⟨rfl, i, hi, rfl, hA⟩ := hrel
    replace hA := Lib.hid hA
    by_cases hlt : i < l.length
    · obtain ⟨c, hc⟩ : ∃ c, l[i] = c := ⟨_, rfl⟩
      rcases hb : Nm.bad c with _ | _
      · have hA' := Lib.hid (Nm.any_take l i hlt hA.out (by rw [hc]; exact hb))
        rw [Nm.bad_spell, Bool.or_eq_false_iff] at hb
        obtain ⟨b1, b2⟩ := hb
        go_wp2
        go_roundw
        case rel => exact ⟨trivial, i + 1, by omega, by go_num, hA'.out⟩
        case measure => simp [intOf]; omega
      · have hX := Lib.hid (Nm.any_hit l i hlt (by rw [hc]; exact hb))
        rw [Nm.bad_spell, Bool.or_eq_true] at hb
        by_cases b1 : ((c.toNat : Int) == 47) = true
        · clear hb
          go_wp2
          go_ret
          exact ⟨by rw [H.out, if_pos hX.out]; rfl, rfl⟩
        · have b2 := hb.resolve_left b1
          rw [Bool.not_eq_true] at b1
          clear hb
          go_wp2
          go_ret
          exact ⟨by rw [H.out, if_pos hX.out]; rfl, rfl⟩
    · have hi' : i = l.length := by omega
      subst hi'
      by_cases h48 : 48 < l.length
      · have t48 : ((l.length : Int) > 48) := by omega
        go_wp2
        go_ret
        exact ⟨by rw [H.out, if_neg (by rw [List.take_length] at hA; rw [hA.out]; simp), if_pos h48]; rfl, rfl⟩
      · have t48 : ¬ ((l.length : Int) > 48) := by omega
        go_wp2
        go_ret
        exact ⟨by rw [H.out, if_neg (by rw [List.take_length] at hA; rw [hA.out]; simp), if_neg h48]; rfl, rfl⟩
set_option maxHeartbeats 1000000 in
theorem checkr_any (l : List UInt8) (w : World) (hl : l.length ≤ 140737488355328) : Calls Tryd.prog 30 #[.string (S l)] w (Num (Nm.check l) w) := by
  by_cases h0 : l = []
  · subst h0
    go_enter Tryd.func30, Tryd.ntmps30
    go_wp2
    go_ret
    exact ⟨rfl, rfl⟩
  by_cases h1 : l = [46]
  · subst h1
    go_enter Tryd.func30, Tryd.ntmps30
    go_wp2
    go_ret
    exact ⟨rfl, rfl⟩
  by_cases h2 : l = [46, 46]
  · subst h2
    go_enter Tryd.func30, Tryd.ntmps30
    go_wp2
    go_ret
    exact ⟨rfl, rfl⟩
  have H := Lib.hid (show Nm.check l = if l.any Nm.bad then 216 else if 48 < l.length then 215 else 0 by unfold Nm.check; rw [if_neg (by simp [h0, h1, h2])])
  have n0 : (l == []) = false := by simpa using h0
  have n1 : (l == [46]) = false := by simpa using h1
  have n2 : (l == [46, 46]) = false := by simpa using h2
  clear h0 h1 h2
  go_enter Tryd.func30, Tryd.ntmps30
  go_wp2
  go_loopw [3] (fun k wr => wr = w ∧ ∃ i : Nat, i ≤ l.length ∧ k = .int .i64 i ∧ (l.take i).any Nm.bad = false) (fun k _ => l.length - (intOf k).toNat)
  case atStart => exact ⟨rfl, 0, Nat.zero_le _, rfl, by simp⟩
  case round =>
    obtain ⟨rfl, i, hi, rfl, hA⟩ := hrel
    replace hA := Lib.hid hA
    by_cases hlt : i < l.length
    · obtain ⟨c, hc⟩ : ∃ c, l[i] = c := ⟨_, rfl⟩
      rcases hb : Nm.bad c with _ | _
      · have hA' := Lib.hid (Nm.any_take l i hlt hA.out (by rw [hc]; exact hb))
        rw [Nm.bad_spell, Bool.or_eq_false_iff] at hb
        obtain ⟨b1, b2⟩ := hb
        go_wp2
        go_roundw
        case rel => exact ⟨trivial, i + 1, by omega, by go_num, hA'.out⟩
        case measure => simp [intOf]; omega
      · have hX := Lib.hid (Nm.any_hit l i hlt (by rw [hc]; exact hb))
        rw [Nm.bad_spell, Bool.or_eq_true] at hb
        by_cases b1 : ((c.toNat : Int) == 47) = true
        · clear hb
          go_wp2
          go_ret
          exact ⟨by rw [H.out, if_pos hX.out]; rfl, rfl⟩
        · have b2 := hb.resolve_left b1
          rw [Bool.not_eq_true] at b1
          clear hb
          go_wp2
          go_ret
          exact ⟨by rw [H.out, if_pos hX.out]; rfl, rfl⟩
    · have hi' : i = l.length := by omega
      subst hi'
      by_cases h48 : 48 < l.length
      · have t48 : ((l.length : Int) > 48) := by omega
        go_wp2
        go_ret
        exact ⟨by rw [H.out, if_neg (by rw [List.take_length] at hA; rw [hA.out]; simp), if_pos h48]; rfl, rfl⟩
      · have t48 : ¬ ((l.length : Int) > 48) := by omega
        go_wp2
        go_ret
        exact ⟨by rw [H.out, if_neg (by rw [List.take_length] at hA; rw [hA.out]; simp), if_neg h48]; rfl, rfl⟩
end Go.Proofs.YtopfkbpjfcdjnaaDoor
