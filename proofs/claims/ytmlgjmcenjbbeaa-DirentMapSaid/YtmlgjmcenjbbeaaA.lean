/- Which names may be (slipway/dirent and the reference). -/
import Derived.Test.YtmlgjmcenjbbeaaI
import Derived.Test.YtmlgjmcenjbbeaaShelf
import Derived.LoopTactic
namespace Go.Proofs.Ytmlgjmcenjbbeaa
open Go.RowKit
theorem indexByte_idx (l : List UInt8) (c : UInt8) : Lib.indexByte l c = if l.idxOf c < l.length then (l.idxOf c : Int) else -1 := by
  induction l with
  | nil => rfl
  | cons b l ih =>
    unfold Lib.indexByte
    rw [ih, List.idxOf_cons, List.length_cons]
    by_cases h : (b == c) = true
    · simp [h]
    · have h' : (b == c) = false := by simpa using h
      simp only [h', Bool.false_eq_true, if_false, cond_false]
      by_cases h2 : l.idxOf c < l.length
      · have h3 : l.idxOf c + 1 < l.length + 1 := by omega
        rw [if_pos h2, if_pos h3]
        have : ((l.idxOf c : Int) == -1) = false := by rw [beq_eq_false_iff_ne]; omega
        rw [this]; simp
      · have h3 : ¬ l.idxOf c + 1 < l.length + 1 := by omega
        rw [if_neg h2, if_neg h3]; rfl
theorem indexByte_mem (l : List UInt8) (c : UInt8) : (0 ≤ Lib.indexByte l c) ↔ c ∈ l := by
  rw [indexByte_idx]
  by_cases h : l.idxOf c < l.length
  · rw [if_pos h]
    exact ⟨fun _ => List.idxOf_lt_length_iff.1 h, fun _ => by omega⟩
  · rw [if_neg h]
    exact ⟨fun h' => by omega, fun h' => absurd (List.idxOf_lt_length_iff.2 h') h⟩
theorem index_S (l : List UInt8) (c : UInt8) (w : World) (x : Int) (h : Lib.indexByte l c = x) :
    Calls Try.prog 38 #[.string (S l), .int .u8 c.toNat] w fun e w' => e = .returned (.int .i64 x) ∧ w' = w := by
  have := Try.strings_IndexByte (S l) c.toNat w
  rw [S_data, show ((c.toNat : Int).toNat.toUInt8) = c from by simp, h] at this
  exact this
namespace Nm
def bad (c : UInt8) : Bool := c == 47 || c == 0
def name (l : List UInt8) : Int :=
  if l = [] ∨ 48 < l.length ∨ l = [46] ∨ l = [46, 46] then 161 else if l.any bad then 161 else 0
theorem any_take (l : List UInt8) (i : Nat) (h : i < l.length) (ht : (l.take i).any bad = false) (hc : bad l[i] = false) : (l.take (i + 1)).any bad = false := by
  rw [List.take_succ_eq_append_getElem h, List.any_append, ht]
  simp [hc]
theorem any_hit (l : List UInt8) (i : Nat) (h : i < l.length) (hc : bad l[i] = true) : l.any bad = true := by
  rw [List.any_eq_true]
  exact ⟨l[i], List.getElem_mem h, hc⟩
theorem bad_spell (c : UInt8) : bad c = (((c.toNat : Int) == 47) || ((c.toNat : Int) == 0)) := by
  unfold bad
  by_cases h : c = 47
  · subst h; rfl
  by_cases h0 : c = 0
  · subst h0; rfl
  have h1 : ((c.toNat : Int) == 47) = false := by
    rw [beq_eq_false_iff_ne]; intro e; exact h (UInt8.toNat_inj.1 (by have : c.toNat = 47 := by omega
                                                                      simpa using this))
  have h2 : ((c.toNat : Int) == 0) = false := by
    rw [beq_eq_false_iff_ne]; intro e; exact h0 (UInt8.toNat_inj.1 (by have : c.toNat = 0 := by omega
                                                                       simpa using this))
  simp [h1, h2, h, h0]
theorem any_bad (l : List UInt8) : l.any bad = true ↔ ((0 : UInt8) ∈ l ∨ (47 : UInt8) ∈ l) := by
  rw [List.any_eq_true]
  unfold bad
  constructor
  · rintro ⟨x, hx, h⟩
    simp only [Bool.or_eq_true, beq_iff_eq] at h
    rcases h with rfl | rfl
    · exact .inr hx
    · exact .inl hx
  · rintro (h | h)
    · exact ⟨0, h, rfl⟩
    · exact ⟨47, h, rfl⟩
end Nm
/-- A number; the world is as it was. -/
def Num (n : Int) (w : World) (e : Ending) (w' : World) : Prop := e = .returned (.int .i64 n) ∧ w' = w
set_option maxHeartbeats 1000000 in
theorem name_any (l : List UInt8) (w : World) : Calls Try.prog 11 #[.string (S l)] w (Num (Nm.name l) w) := by
  by_cases h0 : l = []
  · subst h0
    go_enter Try.func11, Try.ntmps11
    go_wp2
    go_ret
    exact ⟨rfl, rfl⟩
  have n0 : (l == []) = false := by simpa using h0
  by_cases h48 : 48 < l.length
  · have t1 : ((l.length : Int) > 48) := by omega
    have H := Lib.hid (show Nm.name l = 161 by unfold Nm.name; rw [if_pos (.inr (.inl h48))])
    clear h0
    go_enter Try.func11, Try.ntmps11
    go_wp2
    go_ret
    exact ⟨by rw [H.out]; rfl, rfl⟩
  have t1 : ¬ ((l.length : Int) > 48) := by omega
  by_cases h1 : l = [46]
  · subst h1
    go_enter Try.func11, Try.ntmps11
    go_wp2
    go_ret
    exact ⟨rfl, rfl⟩
  by_cases h2 : l = [46, 46]
  · subst h2
    go_enter Try.func11, Try.ntmps11
    go_wp2
    go_ret
    exact ⟨rfl, rfl⟩
  have n1 : (l == [46]) = false := by simpa using h1
  have n2 : (l == [46, 46]) = false := by simpa using h2
  have H := Lib.hid (show Nm.name l = if l.any Nm.bad then 161 else 0 by unfold Nm.name; rw [if_neg (by simp [h0, h1, h2]; omega)])
  have hA := Lib.hid (Nm.any_bad l)
  have hm0 := Lib.hid (indexByte_mem l 0)
  have hm47 := Lib.hid (indexByte_mem l 47)
  obtain ⟨x0, hx0⟩ : ∃ x, Lib.indexByte l 0 = x := ⟨_, rfl⟩
  obtain ⟨x47, hx47⟩ : ∃ x, Lib.indexByte l 47 = x := ⟨_, rfl⟩
  have c0 := Lib.hid (show Calls Try.prog 38 #[.string (S l), .int .u8 0] w fun e w' => e = .returned (.int .i64 x0) ∧ w' = w from index_S l 0 w x0 hx0)
  have c47 := Lib.hid (show Calls Try.prog 38 #[.string (S l), .int .u8 47] w fun e w' => e = .returned (.int .i64 x47) ∧ w' = w from index_S l 47 w x47 hx47)
  rw [hx0] at hm0
  rw [hx47] at hm47
  clear h0 h1 h2 hx0 hx47
  by_cases g0 : 0 ≤ x0
  · go_enter Try.func11, Try.ntmps11
    go_wp2_with (go_at_call 38; refine c0.out.mono ?_; rintro e w' ⟨rfl, hw⟩; obtain rfl := hw.symm)
    go_ret
    exact ⟨by rw [H.out, if_pos (hA.out.2 (.inl (hm0.out.1 g0)))]; rfl, rfl⟩
  · by_cases g47 : 0 ≤ x47
    · go_enter Try.func11, Try.ntmps11
      go_wp2_with fail
      refine c0.out.mono ?_
      rintro e w' ⟨rfl, hw⟩
      obtain rfl := hw.symm
      go_wp2_with fail
      refine c47.out.mono ?_
      rintro e w' ⟨rfl, hw⟩
      obtain rfl := hw.symm
      go_wp2_with fail
      go_ret
      exact ⟨by rw [H.out, if_pos (hA.out.2 (.inr (hm47.out.1 g47)))]; rfl, rfl⟩
    · go_enter Try.func11, Try.ntmps11
      go_wp2_with fail
      refine c0.out.mono ?_
      rintro e w' ⟨rfl, hw⟩
      obtain rfl := hw.symm
      go_wp2_with fail
      refine c47.out.mono ?_
      rintro e w' ⟨rfl, hw⟩
      obtain rfl := hw.symm
      go_wp2_with fail
      go_ret
      refine ⟨?_, rfl⟩
      rw [H.out, if_neg]
      · rfl
      · intro h
        rcases hA.out.1 h with h | h
        · have := hm0.out.2 h; omega
        · have := hm47.out.2 h; omega
set_option maxHeartbeats 1000000 in
theorem namer_any (l : List UInt8) (w : World) : Calls Try.prog 12 #[.string (S l)] w (Num (Nm.name l) w) := by
  by_cases h0 : l = []
  · subst h0
    go_enter Try.func12, Try.ntmps12
    go_wp2
    go_ret
    exact ⟨rfl, rfl⟩
  have z0 : ((l.length : Int) == 0) = false := by
    rw [beq_eq_false_iff_ne]; intro e; exact h0 (List.eq_nil_of_length_eq_zero (by omega))
  by_cases h48 : 48 < l.length
  · have t1 : ((l.length : Int) > 48) := by omega
    have H := Lib.hid (show Nm.name l = 161 by unfold Nm.name; rw [if_pos (.inr (.inl h48))])
    clear h0
    go_enter Try.func12, Try.ntmps12
    go_wp2
    go_ret
    exact ⟨by rw [H.out]; rfl, rfl⟩
  have t1 : ¬ ((l.length : Int) > 48) := by omega
  by_cases h1 : l = [46]
  · subst h1
    go_enter Try.func12, Try.ntmps12
    go_wp2
    go_ret
    exact ⟨rfl, rfl⟩
  by_cases h2 : l = [46, 46]
  · subst h2
    go_enter Try.func12, Try.ntmps12
    go_wp2
    go_ret
    exact ⟨rfl, rfl⟩
  have n1 : (l == [46]) = false := by simpa using h1
  have n2 : (l == [46, 46]) = false := by simpa using h2
  have H := Lib.hid (show Nm.name l = if l.any Nm.bad then 161 else 0 by unfold Nm.name; rw [if_neg (by simp [h0, h1, h2]; omega)])
  have hl : l.length ≤ 48 := by omega
  clear h0 h1 h2 h48
  go_enter Try.func12, Try.ntmps12
  go_wp2
  go_loopw [3] (fun k wr => wr = w ∧ ∃ i : Nat, i ≤ l.length ∧ k = .int .i64 i ∧ (l.take i).any Nm.bad = false) (fun k _ => l.length - (intOf k).toNat)
  case atStart => exact ⟨rfl, 0, Nat.zero_le _, rfl, by simp⟩
  case round =>
    obtain ⟨rfl, i, hi, rfl, hA⟩ := hrel
    replace hA := Lib.hid hA
    by_cases hlt : i < l.length
    · obtain ⟨c, hc⟩ : ∃ c, l[i] = c := ⟨_, rfl⟩
      rcases hb : Nm.bad c with _ | _
      · have hA' := Lib.hid (Nm.any_take l i hlt hA.out (by rw [hc]; exact hb))
        rw [Nm.bad_spell, Bool.or_eq_false_iff] at hb
        obtain ⟨b1, b2⟩ := hb
        go_wp2
        go_roundw
        case rel => exact ⟨trivial, i + 1, by omega, by go_num, hA'.out⟩
        case measure => simp [intOf]; omega
      · have hX := Lib.hid (Nm.any_hit l i hlt (by rw [hc]; exact hb))
        rw [Nm.bad_spell, Bool.or_eq_true] at hb
        by_cases b2 : ((c.toNat : Int) == 0) = true
        · clear hb
          go_wp2
          go_ret
          exact ⟨by rw [H.out, if_pos hX.out]; rfl, rfl⟩
        · have b1 := hb.resolve_right b2
          rw [Bool.not_eq_true] at b2
          clear hb
          go_wp2
          go_ret
          exact ⟨by rw [H.out, if_pos hX.out]; rfl, rfl⟩
    · have hi' : i = l.length := by omega
      subst hi'
      go_wp2
      go_ret
      exact ⟨by rw [H.out, if_neg (by rw [List.take_length] at hA; rw [hA.out]; simp)]; rfl, rfl⟩
end Go.Proofs.Ytmlgjmcenjbbeaa
