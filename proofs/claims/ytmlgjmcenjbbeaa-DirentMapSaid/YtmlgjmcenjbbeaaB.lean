/- Which entries may be (slipway/dirent and the reference). -/
import Derived.Test.YtmlgjmcenjbbeaaA
namespace Go.Proofs.Ytmlgjmcenjbbeaa
open Go.RowKit
/-- An entry. -/
structure Ent where
  name : List UInt8
  ino : Int
  kind : Int
deriving DecidableEq
def entV (x : Ent) : Value := .agg #[.string (S x.name), .int .i64 x.ino, .int .i64 x.kind]
namespace Nm
def chk (x : Ent) : Int := if name x.name ≠ 0 then name x.name else if x.ino < 1 ∨ 1048576 < x.ino ∨ (x.kind ≠ 1 ∧ x.kind ≠ 2) then 162 else 0
end Nm
/-- A number; old blocks are as they were. -/
def NumB (n : Int) (w : World) (e : Ending) (w' : World) : Prop := e = .returned (.int .i64 n) ∧ Below w.heap.size w w'
set_option maxRecDepth 100000 in
set_option maxHeartbeats 2000000 in
theorem check_any (x : Ent) (w : World) : Calls Try.prog 13 #[entV x] w (NumB (Nm.chk x) w) := by
  obtain ⟨l, ino, kind⟩ := x
  have hB := Lib.hid ((Below.refl _ w).alloc (Nat.le_refl _) (.cells #[.string (S l), .int .i64 ino, .int .i64 kind] 24))
  have hc := Lib.hid (fun W => name_any l W)
  obtain ⟨n, hn⟩ : ∃ n, Nm.name l = n := ⟨_, rfl⟩
  have H := Lib.hid (show Nm.chk ⟨l, ino, kind⟩ = if n ≠ 0 then n else if ino < 1 ∨ 1048576 < ino ∨ (kind ≠ 1 ∧ kind ≠ 2) then 162 else 0 by unfold Nm.chk; rw [hn])
  rw [hn] at hc
  replace hn := Lib.hid hn
  unfold entV
  dsimp only
  by_cases h0 : n = 0
  case neg =>
    have n0 : (n == 0) = false := by simpa using h0
    go_enter Try.func13, Try.ntmps13
    go_wp2_with (go_at_call 11; refine (hc.out _).mono ?_; rintro e w' ⟨rfl, hw⟩; obtain rfl := hw.symm)
    go_ret
    exact ⟨by rw [H.out, if_pos h0]; rfl, hB.out⟩
  subst h0
  by_cases h1 : ino < 1
  · have r : Nm.chk ⟨l, ino, kind⟩ = 162 := by rw [H.out, if_neg (by simp), if_pos (.inl h1)]
    replace r := Lib.hid r
    go_enter Try.func13, Try.ntmps13
    go_wp2_with (go_at_call 11; refine (hc.out _).mono ?_; rintro e w' ⟨rfl, hw⟩; obtain rfl := hw.symm)
    go_ret
    exact ⟨by rw [r.out]; rfl, hB.out⟩
  by_cases h2 : 1048576 < ino
  · have r : Nm.chk ⟨l, ino, kind⟩ = 162 := by rw [H.out, if_neg (by simp), if_pos (.inr (.inl h2))]
    replace r := Lib.hid r
    go_enter Try.func13, Try.ntmps13
    go_wp2_with (go_at_call 11; refine (hc.out _).mono ?_; rintro e w' ⟨rfl, hw⟩; obtain rfl := hw.symm)
    go_ret
    exact ⟨by rw [r.out]; rfl, hB.out⟩
  by_cases h3 : kind = 1
  · subst h3
    have r : Nm.chk ⟨l, ino, 1⟩ = 0 := by rw [H.out, if_neg (by simp), if_neg (by omega)]
    replace r := Lib.hid r
    go_enter Try.func13, Try.ntmps13
    go_wp2_with (go_at_call 11; refine (hc.out _).mono ?_; rintro e w' ⟨rfl, hw⟩; obtain rfl := hw.symm)
    go_ret
    exact ⟨by rw [r.out]; rfl, hB.out⟩
  have k1 : (kind == 1) = false := by simpa using h3
  have j1 : (kind != 1) = true := by simpa using h3
  by_cases h4 : kind = 2
  · subst h4
    have r : Nm.chk ⟨l, ino, 2⟩ = 0 := by rw [H.out, if_neg (by simp), if_neg (by omega)]
    replace r := Lib.hid r
    go_enter Try.func13, Try.ntmps13
    go_wp2_with (go_at_call 11; refine (hc.out _).mono ?_; rintro e w' ⟨rfl, hw⟩; obtain rfl := hw.symm)
    go_ret
    exact ⟨by rw [r.out]; rfl, hB.out⟩
  have k2 : (kind == 2) = false := by simpa using h4
  have j2 : (kind != 2) = true := by simpa using h4
  have r : Nm.chk ⟨l, ino, kind⟩ = 162 := by rw [H.out, if_neg (by simp), if_pos (.inr (.inr ⟨h3, h4⟩))]
  replace r := Lib.hid r
  go_enter Try.func13, Try.ntmps13
  go_wp2_with (go_at_call 11; refine (hc.out _).mono ?_; rintro e w' ⟨rfl, hw⟩; obtain rfl := hw.symm)
  go_ret
  exact ⟨by rw [r.out]; rfl, hB.out⟩
set_option maxRecDepth 100000 in
set_option maxHeartbeats 2000000 in
theorem checkr_any (x : Ent) (w : World) : Calls Try.prog 14 #[entV x] w (NumB (Nm.chk x) w) := by
  obtain ⟨l, ino, kind⟩ := x
  have hB := Lib.hid ((Below.refl _ w).alloc (Nat.le_refl _) (.cells #[.string (S l), .int .i64 ino, .int .i64 kind] 24))
  have hc := Lib.hid (fun W => namer_any l W)
  obtain ⟨n, hn⟩ : ∃ n, Nm.name l = n := ⟨_, rfl⟩
  have H := Lib.hid (show Nm.chk ⟨l, ino, kind⟩ = if n ≠ 0 then n else if ino < 1 ∨ 1048576 < ino ∨ (kind ≠ 1 ∧ kind ≠ 2) then 162 else 0 by unfold Nm.chk; rw [hn])
  rw [hn] at hc
  replace hn := Lib.hid hn
  unfold entV
  dsimp only
  by_cases h0 : n = 0
  case neg =>
    have n0 : (n == 0) = false := by simpa using h0
    go_enter Try.func14, Try.ntmps14
    go_wp2_with (go_at_call 12; refine (hc.out _).mono ?_; rintro e w' ⟨rfl, hw⟩; obtain rfl := hw.symm)
    go_ret
    exact ⟨by rw [H.out, if_pos h0]; rfl, hB.out⟩
  subst h0
  by_cases h1 : ino < 1
  · have r : Nm.chk ⟨l, ino, kind⟩ = 162 := by rw [H.out, if_neg (by simp), if_pos (.inl h1)]
    replace r := Lib.hid r
    go_enter Try.func14, Try.ntmps14
    go_wp2_with (go_at_call 12; refine (hc.out _).mono ?_; rintro e w' ⟨rfl, hw⟩; obtain rfl := hw.symm)
    go_ret
    exact ⟨by rw [r.out]; rfl, hB.out⟩
  by_cases h2 : 1048576 < ino
  · have r : Nm.chk ⟨l, ino, kind⟩ = 162 := by rw [H.out, if_neg (by simp), if_pos (.inr (.inl h2))]
    replace r := Lib.hid r
    go_enter Try.func14, Try.ntmps14
    go_wp2_with (go_at_call 12; refine (hc.out _).mono ?_; rintro e w' ⟨rfl, hw⟩; obtain rfl := hw.symm)
    go_ret
    exact ⟨by rw [r.out]; rfl, hB.out⟩
  by_cases h3 : kind = 1
  · subst h3
    have r : Nm.chk ⟨l, ino, 1⟩ = 0 := by rw [H.out, if_neg (by simp), if_neg (by omega)]
    replace r := Lib.hid r
    go_enter Try.func14, Try.ntmps14
    go_wp2_with (go_at_call 12; refine (hc.out _).mono ?_; rintro e w' ⟨rfl, hw⟩; obtain rfl := hw.symm)
    go_ret
    exact ⟨by rw [r.out]; rfl, hB.out⟩
  have k1 : (kind == 1) = false := by simpa using h3
  have j1 : (kind != 1) = true := by simpa using h3
  by_cases h4 : kind = 2
  · subst h4
    have r : Nm.chk ⟨l, ino, 2⟩ = 0 := by rw [H.out, if_neg (by simp), if_neg (by omega)]
    replace r := Lib.hid r
    go_enter Try.func14, Try.ntmps14
    go_wp2_with (go_at_call 12; refine (hc.out _).mono ?_; rintro e w' ⟨rfl, hw⟩; obtain rfl := hw.symm)
    go_ret
    exact ⟨by rw [r.out]; rfl, hB.out⟩
  have k2 : (kind == 2) = false := by simpa using h4
  have j2 : (kind != 2) = true := by simpa using h4
  have r : Nm.chk ⟨l, ino, kind⟩ = 162 := by rw [H.out, if_neg (by simp), if_pos (.inr (.inr ⟨h3, h4⟩))]
  replace r := Lib.hid r
  go_enter Try.func14, Try.ntmps14
  go_wp2_with (go_at_call 12; refine (hc.out _).mono ?_; rintro e w' ⟨rfl, hw⟩; obtain rfl := hw.symm)
  go_ret
  exact ⟨by rw [r.out]; rfl, hB.out⟩
end Go.Proofs.Ytmlgjmcenjbbeaa
