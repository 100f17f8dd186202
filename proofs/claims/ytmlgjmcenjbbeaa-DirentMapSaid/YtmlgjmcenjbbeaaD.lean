/- A record's own need, and what it has room for. -/
import Derived.Test.YtmlgjmcenjbbeaaC
import Derived.BigQuiet
namespace Go.Proofs.Ytmlgjmcenjbbeaa
open Go.RowKit
/-- A record: where it stands, how long it is, its entry. -/
structure Rec where
  at_ : Int
  len : Int
  e : Ent
deriving DecidableEq
def recV (r : Rec) : Value := .agg #[.int .i64 r.at_, .int .i64 r.len, .string (S r.e.name), .int .i64 r.e.ino, .int .i64 r.e.kind]
namespace Nm
def own (r : Rec) : Int := if r.e.ino = 0 then 8 else need r.e.name
def free (r : Rec) : Int := if r.e.ino = 0 then r.len else r.len - own r
end Nm
set_option maxHeartbeats 1000000 in
theorem own_any (r : Rec) (w : World) (hl : r.e.name.length ≤ 140737488355328) : Calls Try.prog 49 #[recV r] w (NumB (Nm.own r) w) := by
  obtain ⟨a, n, ⟨l, ino, kind⟩⟩ := r
  dsimp only at hl
  have hB := Lib.hid ((Below.refl _ w).alloc (Nat.le_refl _) (.cells #[.int .i64 a, .int .i64 n, .string (S l), .int .i64 ino, .int .i64 kind] 69))
  have hc := Lib.hid (fun W => need_any l W hl)
  unfold recV
  dsimp only
  by_cases h0 : ino = 0
  · subst h0
    go_enter Try.func49, Try.ntmps49
    go_wp2
    go_ret
    exact ⟨rfl, hB.out⟩
  · have n0 : (ino == 0) = false := by simpa using h0
    have H := Lib.hid (show Nm.own ⟨a, n, ⟨l, ino, kind⟩⟩ = (Nm.need l : Int) by unfold Nm.own; rw [if_neg h0])
    go_enter Try.func49, Try.ntmps49
    go_wp2_with (go_at_call 48; refine (hc.out _).mono ?_; rintro e w' ⟨rfl, hw⟩; obtain rfl := hw.symm)
    go_ret
    exact ⟨by rw [H.out]; rfl, hB.out⟩
set_option maxHeartbeats 1000000 in
theorem ownr_any (r : Rec) (w : World) (hl : r.e.name.length ≤ 140737488355328) : Calls Try.prog 51 #[recV r] w (NumB (Nm.own r) w) := by
  obtain ⟨a, n, ⟨l, ino, kind⟩⟩ := r
  dsimp only at hl
  have hB := Lib.hid ((Below.refl _ w).alloc (Nat.le_refl _) (.cells #[.int .i64 a, .int .i64 n, .string (S l), .int .i64 ino, .int .i64 kind] 62))
  have hc := Lib.hid (fun W => needr_any l W hl)
  unfold recV
  dsimp only
  by_cases h0 : ino = 0
  · subst h0
    go_enter Try.func51, Try.ntmps51
    go_wp2
    go_ret
    exact ⟨rfl, hB.out⟩
  · have n0 : (ino == 0) = false := by simpa using h0
    have H := Lib.hid (show Nm.own ⟨a, n, ⟨l, ino, kind⟩⟩ = (Nm.need l : Int) by unfold Nm.own; rw [if_neg h0])
    go_enter Try.func51, Try.ntmps51
    go_wp2_with (go_at_call 50; refine (hc.out _).mono ?_; rintro e w' ⟨rfl, hw⟩; obtain rfl := hw.symm)
    go_ret
    exact ⟨by rw [H.out]; rfl, hB.out⟩
end Go.Proofs.Ytmlgjmcenjbbeaa
