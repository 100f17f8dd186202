/- A chip that no call made. -/
import Derived.Test.YtlgjlhgdpiipbaaZj
namespace Go.Proofs.Ytlgjlhgdpiipbaa
open Go.RowKit
/-- No call made it. -/
def NoChip (W : World) (v : Value) : Prop := v = .pointer none ∨ ∃ c, v = .pointer (some ⟨c, 0, none⟩) ∧ W.cell? ⟨c, 2, none⟩ = some (.slice none 0 0)
theorem NoChip.below {W W' : World} {v : Value} (h : NoChip W v) (hb : Below W.heap.size W W') : NoChip W' v := by
  rcases h with h | ⟨c, h1, h2⟩
  · exact .inl h
  · refine .inr ⟨c, h1, ?_⟩
    have hc : c < W.heap.size := by
      rcases Nat.lt_or_ge c W.heap.size with h' | h'
      · exact h'
      · have : W.heap[c]? = none := by simp [h']
        simp [World.cell?, this] at h2
    exact (hb.cell (p := ⟨c, 2, none⟩) hc).trans h2
set_option maxRecDepth 100000 in
set_option maxHeartbeats 4000000 in
theorem made_no {v : Value} {w : World} (h : NoChip w v) : Calls Try.prog 36 #[v] w (ValQ (.bool false) w) := by
  rcases h with rfl | ⟨c, rfl, h2⟩
  · go_enter Try.func36, Try.ntmps36
    go_wp2_with fail
    go_ret
    exact ⟨rfl, rfl⟩
  · go_enter Try.func36, Try.ntmps36
    go_wp2_with fail
    go_ret
    exact ⟨rfl, rfl⟩
set_option maxRecDepth 100000 in
set_option maxHeartbeats 4000000 in
theorem on_no {v : Value} {w : World} (h : NoChip w v) : Calls Try.prog 16 #[v] w (ValQ (.bool false) w) := by
  have hm := Lib.hid (made_no h)
  clear h
  go_enter Try.func16, Try.ntmps16
  go_wp2_with (go_at_call 36; (with_reducible refine hm.out.mono ?_); rintro e w' ⟨rfl, hw⟩; obtain rfl := hw.symm)
  go_ret
  exact ⟨rfl, rfl⟩
set_option maxRecDepth 100000 in
set_option maxHeartbeats 4000000 in
theorem ops_no {v : Value} {w : World} (h : NoChip w v) : Calls Try.prog 18 #[v] w (ValQ (.int .i64 0) w) := by
  have hm := Lib.hid (made_no h)
  clear h
  go_enter Try.func18, Try.ntmps18
  go_wp2_with (go_at_call 36; (with_reducible refine hm.out.mono ?_); rintro e w' ⟨rfl, hw⟩; obtain rfl := hw.symm)
  go_ret
  exact ⟨rfl, rfl⟩
set_option maxRecDepth 100000 in
set_option maxHeartbeats 4000000 in
theorem restart_no {v : Value} {w : World} (h : NoChip w v) : Calls Try.prog 24 #[v] w (ValQ (.int .i64 2) w) := by
  have hm := Lib.hid (made_no h)
  clear h
  go_enter Try.func24, Try.ntmps24
  go_wp2_with (go_at_call 36; (with_reducible refine hm.out.mono ?_); rintro e w' ⟨rfl, hw⟩; obtain rfl := hw.symm)
  go_ret
  exact ⟨rfl, rfl⟩
set_option maxRecDepth 100000 in
set_option maxHeartbeats 4000000 in
theorem clone_no {v : Value} {w : World} (h : NoChip w v) : Calls Try.prog 25 #[v] w (ValQ (.pointer none) w) := by
  have hm := Lib.hid (made_no h)
  clear h
  go_enter Try.func25, Try.ntmps25
  go_wp2_with (go_at_call 36; (with_reducible refine hm.out.mono ?_); rintro e w' ⟨rfl, hw⟩; obtain rfl := hw.symm)
  go_ret
  exact ⟨rfl, rfl⟩
set_option maxRecDepth 100000 in
set_option maxHeartbeats 4000000 in
theorem asks_no {v : Value} {w : World} (h : NoChip w v) (n p : Int) : Calls Try.prog 44 #[v, .int .i64 n, .int .i64 p] w (ValQ (.int .i64 2) w) := by
  have hm := Lib.hid (made_no h)
  clear h
  go_enter Try.func44, Try.ntmps44
  go_wp2_with (go_at_call 36; (with_reducible refine hm.out.mono ?_); rintro e w' ⟨rfl, hw⟩; obtain rfl := hw.symm)
  go_ret
  exact ⟨rfl, rfl⟩
set_option maxRecDepth 100000 in
set_option maxHeartbeats 4000000 in
theorem erase_no {v : Value} {w : World} (h : NoChip w v) (n : Int) : Calls Try.prog 26 #[v, .int .i64 n] w (fun e w' => e = .returned (.int .i64 2) ∧ Below w.heap.size w w') := by
  have ha := Lib.hid (asks_no h n 0)
  have hB := Lib.hid (Below.refl w.heap.size w)
  clear h
  go_enter Try.func26, Try.ntmps26
  go_wp2_with (go_at_call 44; (with_reducible refine ha.out.mono ?_); rintro e w' ⟨rfl, hw⟩; obtain rfl := hw.symm)
  go_ret
  exact ⟨rfl, hB.out⟩
set_option maxRecDepth 100000 in
set_option maxHeartbeats 4000000 in
theorem geo_no {v : Value} {w : World} (h : NoChip w v) : Calls Try.prog 13 #[v] w (fun e w' => e = .returned (.agg #[.int .i64 0, .int .i64 0]) ∧ Below w.heap.size w w') := by
  have hB := (Below.refl w.heap.size w).alloc (Nat.le_refl _) (.cells #[.int .i64 0, .int .i64 0] 23)
  have hm := Lib.hid (made_no (h.below ((Below.refl w.heap.size w).alloc (Nat.le_refl _) (.cells #[.int .i64 0, .int .i64 0] 23))))
  have bx := Box.new w 23 #[.int .i64 0, .int .i64 0]
  clear h
  obtain ⟨W0, hW0⟩ : ∃ W0, w.alloc (.cells #[.int .i64 0, .int .i64 0] 23) = W0 := ⟨_, rfl⟩
  rw [hW0] at hB hm bx
  have d0 := bx.get 0 _ rfl
  have d1 := bx.get 1 _ rfl
  have f0 := bx.frozen 0
  have f1 := bx.frozen 1
  have bx2 := Lib.hid (((bx.set 0 (.int .i64 0)).set 1 (.int .i64 0)))
  have hB2 := Lib.hid ((hB.setCell (p := ⟨w.heap.size, 0, none⟩) (Nat.le_refl _) (.int .i64 0)).setCell (p := ⟨w.heap.size, 1, none⟩) (Nat.le_refl _) (.int .i64 0))
  clear bx hB
  go_enter Try.func13, Try.ntmps13
  go_wp2_with (go_at_call 36; (with_reducible refine hm.out.mono ?_); rintro e w' ⟨rfl, hw⟩; obtain rfl := hw.symm)
  exact bodyPost_ret (res13 bx2.out rfl) rfl ⟨rfl, hB2.out⟩
set_option maxRecDepth 100000 in
set_option maxHeartbeats 4000000 in
theorem look_no {v : Value} {w : World} (h : NoChip w v) (n : Int) : Calls Try.prog 15 #[v, .int .i64 n] w (fun e w' => e = .returned (.tuple #[.agg #[.int .i64 0, .int .i64 0, .bool false], .int .i64 2]) ∧ Below w.heap.size w w') := by
  have hB := (Below.refl w.heap.size w).alloc (Nat.le_refl _) (.cells #[.int .i64 0, .int .i64 0, .bool false] 42)
  have hm := Lib.hid (made_no (h.below ((Below.refl w.heap.size w).alloc (Nat.le_refl _) (.cells #[.int .i64 0, .int .i64 0, .bool false] 42))))
  have bx := Box.new w 42 #[.int .i64 0, .int .i64 0, .bool false]
  clear h
  obtain ⟨W0, hW0⟩ : ∃ W0, w.alloc (.cells #[.int .i64 0, .int .i64 0, .bool false] 42) = W0 := ⟨_, rfl⟩
  rw [hW0] at hB hm bx
  have d0 := bx.get 0 _ rfl
  have d1 := bx.get 1 _ rfl
  have d2 := bx.get 2 _ rfl
  have f0 := bx.frozen 0
  have f1 := bx.frozen 1
  have f2 := bx.frozen 2
  have bx2 := Lib.hid ((((bx.set 0 (.int .i64 0)).set 1 (.int .i64 0)).set 2 (.bool false)))
  have hB2 := Lib.hid (((hB.setCell (p := ⟨w.heap.size, 0, none⟩) (Nat.le_refl _) (.int .i64 0)).setCell (p := ⟨w.heap.size, 1, none⟩) (Nat.le_refl _) (.int .i64 0)).setCell (p := ⟨w.heap.size, 2, none⟩) (Nat.le_refl _) (.bool false))
  clear bx hB
  go_enter Try.func15, Try.ntmps15
  go_wp2_with (go_at_call 36; (with_reducible refine hm.out.mono ?_); rintro e w' ⟨rfl, hw⟩; obtain rfl := hw.symm)
  exact bodyPost_ret (res15 (l := zeroLook) bx2.out rfl rfl) rfl ⟨rfl, hB2.out⟩
set_option maxRecDepth 100000 in
set_option maxHeartbeats 4000000 in
theorem read_no {v : Value} {w : World} (h : NoChip w v) (n p : Int) : Calls Try.prog 29 #[v, .int .i64 n, .int .i64 p] w (fun e w' => e = .returned (.tuple #[pgV (rep 288 0), .int .i64 2]) ∧ Below w.heap.size w w') := by
  have hz := zero48
  have hB := (Below.refl w.heap.size w).alloc (Nat.le_refl _) (.cells (cellsB (rep 288 0)) 48)
  have ha := Lib.hid (asks_no (h.below ((Below.refl w.heap.size w).alloc (Nat.le_refl _) (.cells (cellsB (rep 288 0)) 48))) n p)
  have bx := Box.new w 48 (cellsB (rep 288 0))
  obtain ⟨W0, hW0⟩ : ∃ W0, w.alloc (.cells (cellsB (rep 288 0)) 48) = W0 := ⟨_, rfl⟩
  rw [hW0] at hB ha bx
  obtain ⟨hst0, b5, hg⟩ := bx.storePg (l := rep 288 0) (by simp) (by simp)
  have hB5 := Lib.hid (hB.grown hg hB.size (fun k e => by cases e; exact Nat.le_refl _))
  replace b5 := Lib.hid b5
  clear h bx hB hg
  unfold pgV at hst0
  go_enter Try.func29, Try.ntmps29
  go_wp2_with (first | (go_at_call 44; (with_reducible refine ha.out.mono ?_); rintro e w' ⟨rfl, hw⟩; obtain rfl := hw.symm) | (refine wpList_store_var rfl 48 _ _ rfl _ rfl _ rfl hst0 ?_))
  exact bodyPost_ret (res29 b5.out (rep_len 288 0) rfl rfl) rfl ⟨rfl, hB5.out⟩
set_option maxRecDepth 100000 in
set_option maxHeartbeats 4000000 in
theorem pages22_no {v : Value} {w : World} (h : NoChip w v) (n : Int) : Calls Try.prog 22 #[v, .int .i64 n] w (SeqPg [] w) := by
  have hm := Lib.hid (made_no h)
  have hall := Lib.hid (fun (la : Option Addr) (m lc : Nat) (W : World) => sAll_any la m lc W)
  have hfin := Lib.hid (seqPg_of (w := w) (w1 := w) (ps := []) (la := none) (lc := 0) (World.ownsRow_nil _ _ _ _) (Below.refl _ _))
  clear h
  go_enter Try.func22, Try.ntmps22
  go_wp2_with (first | (go_at_call 36; (with_reducible refine hm.out.mono ?_); rintro e w' ⟨rfl, hw⟩; obtain rfl := hw.symm) | (go_at_call 39; refine (hall.out _ _ _ _).mono ?_; rintro e w' ⟨rfl, rfl⟩))
  go_ret
  exact hfin.out
set_option maxRecDepth 100000 in
set_option maxHeartbeats 4000000 in
theorem program_no {v : Value} {w : World} (h : NoChip w v) (n p : Int) (pg : List UInt8) : Calls Try.prog 27 #[v, .int .i64 n, .int .i64 p, .agg (cellsB pg)] w (fun e w' => e = .returned (.int .i64 2) ∧ Below w.heap.size w w') := by
  have hb := (Below.refl w.heap.size w).alloc (Nat.le_refl _) (.cells (cellsB pg) 48)
  have ha := Lib.hid (asks_no (h.below hb) n p)
  have hB := Lib.hid hb
  clear h hb
  go_enter Try.func27, Try.ntmps27
  go_wp2_with (go_at_call 44; (with_reducible refine ha.out.mono ?_); rintro e w' ⟨rfl, hw⟩; obtain rfl := hw.symm)
  go_ret
  exact ⟨rfl, hB.out⟩
end Go.Proofs.Ytlgjlhgdpiipbaa
