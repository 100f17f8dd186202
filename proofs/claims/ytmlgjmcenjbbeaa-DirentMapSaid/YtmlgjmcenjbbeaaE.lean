/- What a record has room for. -/
import Derived.Test.YtmlgjmcenjbbeaaD
namespace Go.Proofs.Ytmlgjmcenjbbeaa
open Go.RowKit
theorem box_kept {w w2 : World} {vs : Array Value} {t : TypeId} (h : Below (w.alloc (.cells vs t)).heap.size (w.alloc (.cells vs t)) w2) (j : Nat) (v : Value) (hv : vs[j]? = some v) : w2.cell? ⟨w.heap.size, j, none⟩ = some v := by
  rw [h.cell (p := ⟨w.heap.size, j, none⟩) (by simp)]
  have := heap_alloc_new w (.cells vs t)
  simp only [World.cell?, this]
  exact hv
set_option maxHeartbeats 2000000 in
theorem free_any (r : Rec) (w : World) (hl : r.e.name.length ≤ 140737488355328) (hn : -1000000 ≤ r.len ∧ r.len ≤ 1000000) : Calls Try.prog 42 #[recV r] w (NumB (Nm.free r) w) := by
  obtain ⟨a, n, ⟨l, ino, kind⟩⟩ := r
  dsimp only at hl hn
  have hB := Lib.hid ((Below.refl _ w).alloc (Nat.le_refl _) (.cells #[.int .i64 a, .int .i64 n, .string (S l), .int .i64 ino, .int .i64 kind] 69))
  have hc := Lib.hid (fun W => own_any ⟨a, n, ⟨l, ino, kind⟩⟩ W hl)
  have ho : (0 : Int) ≤ Nm.own ⟨a, n, ⟨l, ino, kind⟩⟩ ∧ Nm.own ⟨a, n, ⟨l, ino, kind⟩⟩ ≤ 140737488355400 := by
    unfold Nm.own Nm.need; split <;> (try dsimp only) <;> omega
  have hfr : ino ≠ 0 → Nm.free ⟨a, n, ⟨l, ino, kind⟩⟩ = n - Nm.own ⟨a, n, ⟨l, ino, kind⟩⟩ := fun h => by unfold Nm.free; rw [if_neg h]
  obtain ⟨o, hoo⟩ : ∃ o, Nm.own ⟨a, n, ⟨l, ino, kind⟩⟩ = o := ⟨_, rfl⟩
  rw [hoo] at ho hfr hc
  clear hoo
  obtain ⟨ho1, ho2⟩ := ho
  obtain ⟨hn1, hn2⟩ := hn
  unfold recV at *
  dsimp only at *
  by_cases h0 : ino = 0
  · subst h0
    go_enter Try.func42, Try.ntmps42
    go_wp2
    go_ret
    exact ⟨rfl, hB.out⟩
  · have n0 : (ino == 0) = false := by simpa using h0
    have H := Lib.hid (hfr h0)
    have hsub := Lib.hid (show IntKind.i64.wrap (n - o) = n - o by rw [IntKind.wrap_i64]; omega)
    clear hfr
    go_enter Try.func42, Try.ntmps42
    go_wp2
    go_region_with (go_at_call 49; refine (hc.out _).mono ?_; rintro e w2 ⟨rfl, hb2⟩; have q0 : w2.cell? ⟨w.heap.size, 0, none⟩ = some (.int .i64 a) := (by rw [hb2.cell (p := ⟨w.heap.size, 0, none⟩) (by simp)]; simp); have q1 : w2.cell? ⟨w.heap.size, 1, none⟩ = some (.int .i64 n) := (by rw [hb2.cell (p := ⟨w.heap.size, 1, none⟩) (by simp)]; simp); have q2 : w2.cell? ⟨w.heap.size, 2, none⟩ = some (.string (S l)) := (by rw [hb2.cell (p := ⟨w.heap.size, 2, none⟩) (by simp)]; simp); have q3 : w2.cell? ⟨w.heap.size, 3, none⟩ = some (.int .i64 ino) := (by rw [hb2.cell (p := ⟨w.heap.size, 3, none⟩) (by simp)]; simp); have q4 : w2.cell? ⟨w.heap.size, 4, none⟩ = some (.int .i64 kind) := (by rw [hb2.cell (p := ⟨w.heap.size, 4, none⟩) (by simp)]; simp); have hBB : Below w.heap.size w w2 := ⟨hb2.os, hb2.tape, hb2.output, Nat.le_trans (by simp) hb2.size, fun k hk => (hb2.block k (by simp; omega)).trans (hB.out.block k hk)⟩)
    all_goals
      go_wp2
      go_ret
      exact ⟨by rw [H.out]; first | rfl | (show Ending.returned (.int .i64 (IntKind.i64.wrap (n - o))) = _; rw [hsub.out]), ⟨hBB.os, hBB.tape, hBB.output, hBB.size, hBB.block⟩⟩
set_option maxHeartbeats 2000000 in
theorem freer_any (r : Rec) (w : World) (hl : r.e.name.length ≤ 140737488355328) (hn : -1000000 ≤ r.len ∧ r.len ≤ 1000000) : Calls Try.prog 43 #[recV r] w (NumB (Nm.free r) w) := by
  obtain ⟨a, n, ⟨l, ino, kind⟩⟩ := r
  dsimp only at hl hn
  have hB := Lib.hid ((Below.refl _ w).alloc (Nat.le_refl _) (.cells #[.int .i64 a, .int .i64 n, .string (S l), .int .i64 ino, .int .i64 kind] 62))
  have hc := Lib.hid (fun W => ownr_any ⟨a, n, ⟨l, ino, kind⟩⟩ W hl)
  have ho : (0 : Int) ≤ Nm.own ⟨a, n, ⟨l, ino, kind⟩⟩ ∧ Nm.own ⟨a, n, ⟨l, ino, kind⟩⟩ ≤ 140737488355400 := by
    unfold Nm.own Nm.need; split <;> (try dsimp only) <;> omega
  have hfr : ino ≠ 0 → Nm.free ⟨a, n, ⟨l, ino, kind⟩⟩ = n - Nm.own ⟨a, n, ⟨l, ino, kind⟩⟩ := fun h => by unfold Nm.free; rw [if_neg h]
  obtain ⟨o, hoo⟩ : ∃ o, Nm.own ⟨a, n, ⟨l, ino, kind⟩⟩ = o := ⟨_, rfl⟩
  rw [hoo] at ho hfr hc
  clear hoo
  obtain ⟨ho1, ho2⟩ := ho
  obtain ⟨hn1, hn2⟩ := hn
  unfold recV at *
  dsimp only at *
  by_cases h0 : ino = 0
  · subst h0
    go_enter Try.func43, Try.ntmps43
    go_wp2
    go_ret
    exact ⟨rfl, hB.out⟩
  · have n0 : (ino == 0) = false := by simpa using h0
    have H := Lib.hid (hfr h0)
    have hsub := Lib.hid (show IntKind.i64.wrap (n - o) = n - o by rw [IntKind.wrap_i64]; omega)
    clear hfr
    go_enter Try.func43, Try.ntmps43
    go_wp2
    go_region_with (go_at_call 51; refine (hc.out _).mono ?_; rintro e w2 ⟨rfl, hb2⟩; have q0 : w2.cell? ⟨w.heap.size, 0, none⟩ = some (.int .i64 a) := (by rw [hb2.cell (p := ⟨w.heap.size, 0, none⟩) (by simp)]; simp); have q1 : w2.cell? ⟨w.heap.size, 1, none⟩ = some (.int .i64 n) := (by rw [hb2.cell (p := ⟨w.heap.size, 1, none⟩) (by simp)]; simp); have q2 : w2.cell? ⟨w.heap.size, 2, none⟩ = some (.string (S l)) := (by rw [hb2.cell (p := ⟨w.heap.size, 2, none⟩) (by simp)]; simp); have q3 : w2.cell? ⟨w.heap.size, 3, none⟩ = some (.int .i64 ino) := (by rw [hb2.cell (p := ⟨w.heap.size, 3, none⟩) (by simp)]; simp); have q4 : w2.cell? ⟨w.heap.size, 4, none⟩ = some (.int .i64 kind) := (by rw [hb2.cell (p := ⟨w.heap.size, 4, none⟩) (by simp)]; simp); have hBB : Below w.heap.size w w2 := ⟨hb2.os, hb2.tape, hb2.output, Nat.le_trans (by simp) hb2.size, fun k hk => (hb2.block k (by simp; omega)).trans (hB.out.block k hk)⟩)
    all_goals
      go_wp2
      go_ret
      exact ⟨by rw [H.out]; first | rfl | (show Ending.returned (.int .i64 (IntKind.i64.wrap (n - o))) = _; rw [hsub.out]), ⟨hBB.os, hBB.tape, hBB.output, hBB.size, hBB.block⟩⟩
end Go.Proofs.Ytmlgjmcenjbbeaa
