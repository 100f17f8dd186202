/- erased, page (of the law), Blank: pages of one byte. -/
import Derived.Test.YtlgjlhgdpiipbaaA
import Derived.Deep.CutBlock
namespace Go.Proofs.Ytlgjlhgdpiipbaa
open Go.RowKit
/-- A page's bytes, in a new block. -/
def NewB (l : List UInt8) (w : World) (e : Ending) (w' : World) : Prop := ∃ b, e = .returned (.pointer (some ⟨b, 0, none⟩)) ∧ w.heap.size ≤ b ∧ Box w' b 110 (cellsB l) ∧ Below w.heap.size w w'
set_option maxRecDepth 100000 in
set_option maxHeartbeats 4000000 in
theorem erased_any (w : World) : Calls Try.prog 30 #[] w (NewB (rep 288 255) w) := by
  have hz := zero110
  have bx := Box.new w 110 (cellsB (rep 288 0))
  have hB := (Below.refl w.heap.size w).alloc (Nat.le_refl _) (.cells (cellsB (rep 288 0)) 110)
  obtain ⟨W0, hW0⟩ : ∃ W0, w.alloc (.cells (cellsB (rep 288 0)) 110) = W0 := ⟨_, rfl⟩
  rw [hW0] at bx hB
  go_enter Try.func30, Try.ntmps30
  go_wp2_with fail
  clear hz hW0
  obtain ⟨b, hb⟩ : ∃ b, w.heap.size = b := ⟨_, rfl⟩
  have hbw : w.heap.size ≤ b := by omega
  rw [hb] at bx hB ⊢
  go_loopw [3] (fun i wr => ∃ k : Nat, k ≤ 288 ∧ i = .int .i64 k ∧ Box wr b 110 (cellsB (fillTo 288 k 255 0)) ∧ Below b w wr) (fun i _ => 288 - (intOf i).toNat)
  case atStart => exact ⟨0, by omega, rfl, by rw [fillTo_zero]; exact bx, hB⟩
  case round =>
    clear bx hB
    obtain ⟨k, hk, rfl, bx, hB⟩ := hrel
    by_cases hlt : k < 288
    · have hl := fillTo_len 288 k 255 0 hk
      obtain ⟨x0, c0⟩ : ∃ x, wr.cell? ⟨b, k, none⟩ = some x := ⟨_, bx.get k _ (cellsB_get _ k (by omega))⟩
      have hf := bx.frozen k
      have bx2 := bx.set k (byteV 255)
      rw [cellsB_set, fillTo_set 288 k 255 0 hlt] at bx2
      have hB2 := hB.setCell (p := ⟨b, k, none⟩) (Nat.le_refl _) (byteV 255)
      have hI0 : (0 : Int) ≤ (k : Int) := by omega
      have hI1 : (k : Int) < 288 := by omega
      replace bx2 := Lib.hid bx2
      replace hB2 := Lib.hid hB2
      clear bx hB hl
      go_wp2_with fail
      go_roundw
      case rel => exact ⟨k + 1, by omega, by go_num, bx2.out, hB2.out⟩
      case measure => simp [intOf]; omega
    · have hk' : k = 288 := by omega
      subst hk'
      rw [fillTo_all] at bx
      replace bx := Lib.hid bx
      replace hB := Lib.hid hB
      go_wp2_with fail
      go_ret
      exact ⟨b, rfl, hbw, bx.out, by rw [hb]; exact hB.out⟩
theorem res20 {W : World} {b : Nat} {t : TypeId} {l : List UInt8} (h : Box W b t (cellsB l)) (hl : l.length = 288) {tmps : Array Value} (h2 : tmps.getD 2 undef = .pointer (some ⟨b, 0, none⟩)) :
    (results Try.f20 tmps).run Try.prog W = .ok (pgV l) W := by
  have h3 := h.loadPg hl
  simp at h2
  simp [results, Try.results20, asAddr, h2, h3]
set_option maxRecDepth 100000 in
set_option maxHeartbeats 4000000 in
theorem page_any (c : UInt8) (w : World) : Calls Try.prog 20 #[byteV c] w (fun e w' => e = .returned (pgV (rep 288 c)) ∧ Below w.heap.size w w') := by
  have hz := zero48
  have b1 := (Box.new w 48 (cellsB (rep 288 0))).alloc (.cells (cellsB (rep 288 0)) 48)
  have b2 := Box.new (w.alloc (.cells (cellsB (rep 288 0)) 48)) 48 (cellsB (rep 288 0))
  have hB := (Below.refl w.heap.size w).alloc (Nat.le_refl _) (.cells (cellsB (rep 288 0)) 48)
  replace hB := hB.alloc hB.size (.cells (cellsB (rep 288 0)) 48)
  rw [World.size_alloc] at b2
  obtain ⟨W0, hW0⟩ : ∃ W0, (w.alloc (.cells (cellsB (rep 288 0)) 48)).alloc (.cells (cellsB (rep 288 0)) 48) = W0 := ⟨_, rfl⟩
  rw [hW0] at b1 b2 hB
  unfold byteV
  go_enter Try.func20, Try.ntmps20
  go_wp2_with fail
  clear hz hW0
  obtain ⟨b, hb⟩ : ∃ b, w.heap.size = b := ⟨_, rfl⟩
  rw [hb] at b1 b2 hB ⊢
  go_loopw [6] (fun i wr => ∃ k : Nat, k ≤ 256 ∧ i = .int .i64 k ∧ Box wr b 48 (cellsB (rep 288 0)) ∧ Box wr (b + 1) 48 (cellsB (fillTo 288 (k) c 0)) ∧ Below b w wr) (fun i _ => 256 - (intOf i).toNat)
  case atStart => exact ⟨0, by omega, rfl, b1, by rw [fillTo_zero]; exact b2, hB⟩
  case round =>
    clear b1 b2 hB
    obtain ⟨k, hk, rfl, b1, b2, hB⟩ := hrel
    by_cases hlt : k < 256
    · have hl := fillTo_len 288 (k) c 0 (by omega)
      obtain ⟨x0, c0⟩ : ∃ x, wr.cell? ⟨b + 1, k, none⟩ = some x := ⟨_, b2.get (k) _ (cellsB_get _ (k) (by omega))⟩
      have hf := b2.frozen (k)
      have b3 := b2.set (k) (byteV c)
      rw [cellsB_set, fillTo_set 288 (k) c 0 (by omega)] at b3
      have hB2 := hB.setCell (p := ⟨b + 1, k, none⟩) (by show b ≤ b + 1; omega) (byteV c)
      have b4 := b1.far ⟨b + 1, k, none⟩ (byteV c) (by show b + 1 ≠ b; omega)
      unfold byteV at b3 hB2 b4
      have hI0 : (0 : Int) ≤ (k : Int) := by omega
      have hI1 : (k : Int) < 256 := by omega
      replace b3 := Lib.hid b3
      replace hB2 := Lib.hid hB2
      replace b4 := Lib.hid b4
      clear b1 b2 hB hl
      go_wp2_with fail
      go_roundw
      case rel => exact ⟨k + 1, by omega, by go_num, b4.out, b3.out, hB2.out⟩
      case measure => simp [intOf]; omega
    · have hk' : k = 256 := by omega
      subst hk'
      go_wp2_with fail
      go_loopw [14] (fun i wr => ∃ k : Nat, k ≤ 32 ∧ i = .int .i64 k ∧ Box wr b 48 (cellsB (rep 288 0)) ∧ Box wr (b + 1) 48 (cellsB (fillTo 288 (256 + k) c 0)) ∧ Below b w wr) (fun i _ => 32 - (intOf i).toNat)
      case atStart => exact ⟨0, by omega, rfl, b1, b2, hB⟩
      case round =>
        clear b1 b2 hB
        obtain ⟨k, hk, rfl, b1, b2, hB⟩ := hrel
        by_cases hlt : k < 32
        · have hl := fillTo_len 288 (256 + k) c 0 (by omega)
          obtain ⟨x0, c0⟩ : ∃ x, wr.cell? ⟨b + 1, 256 + k, none⟩ = some x := ⟨_, b2.get (256 + k) _ (cellsB_get _ (256 + k) (by omega))⟩
          have hf := b2.frozen (256 + k)
          have b3 := b2.set (256 + k) (byteV c)
          rw [cellsB_set, fillTo_set 288 (256 + k) c 0 (by omega)] at b3
          have hB2 := hB.setCell (p := ⟨b + 1, 256 + k, none⟩) (by show b ≤ b + 1; omega) (byteV c)
          have b4 := b1.far ⟨b + 1, 256 + k, none⟩ (byteV c) (by show b + 1 ≠ b; omega)
          unfold byteV at b3 hB2 b4
          have hI0 : (0 : Int) ≤ (k : Int) := by omega
          have hI1 : (k : Int) < 32 := by omega
          replace b3 := Lib.hid b3
          replace hB2 := Lib.hid hB2
          replace b4 := Lib.hid b4
          clear b1 b2 hB hl
          go_wp2_with fail
          go_roundw
          case rel => exact ⟨k + 1, by omega, by go_num, b4.out, b3.out, hB2.out⟩
          case measure => simp [intOf]; omega
        · have hk' : k = 32 := by omega
          subst hk'
          rw [show 256 + 32 = 288 from rfl, fillTo_all] at b2
          have hlv := b2.loadPg (rep_len 288 c)
          obtain ⟨hst, b5, hg⟩ := b1.storePg (l := rep 288 c) (by simp) (by simp)
          have hB5 := hB.grown hg (by rw [← hb]; exact hB.size) (fun k e => by cases e; exact Nat.le_refl _)
          replace b5 := Lib.hid b5
          replace hB5 := Lib.hid hB5
          clear b1 b2 hB hg
          go_wp2_with (first | (refine wpList_load_var rfl 48 _ rfl _ rfl _ hlv ?_) | (refine wpList_store_var rfl 48 _ _ rfl _ rfl _ rfl hst ?_))
          exact bodyPost_ret (res20 b5.out (rep_len 288 c) rfl) rfl ⟨rfl, by rw [hb]; exact hB5.out⟩
theorem res34 {W : World} {b : Nat} {t : TypeId} {l : List UInt8} (h : Box W b t (cellsB l)) (hl : l.length = 288) {tmps : Array Value} (h2 : tmps.getD 0 undef = .pointer (some ⟨b, 0, none⟩)) :
    (results Try.f34 tmps).run Try.prog W = .ok (pgV l) W := by
  have h3 := h.loadPg hl
  simp at h2
  simp [results, Try.results34, asAddr, h2, h3]
set_option maxRecDepth 100000 in
set_option maxHeartbeats 4000000 in
theorem blank_any (w : World) : Calls Try.prog 34 #[] w (fun e w' => e = .returned (pgV (rep 288 255)) ∧ Below w.heap.size w w') := by
  have hz := zero48
  have b1 := (Box.new w 48 (cellsB (rep 288 0))).alloc (.cells (cellsB (rep 288 0)) 48)
  have b2 := Box.new (w.alloc (.cells (cellsB (rep 288 0)) 48)) 48 (cellsB (rep 288 0))
  have hB := (Below.refl w.heap.size w).alloc (Nat.le_refl _) (.cells (cellsB (rep 288 0)) 48)
  replace hB := hB.alloc hB.size (.cells (cellsB (rep 288 0)) 48)
  rw [World.size_alloc] at b2
  obtain ⟨W0, hW0⟩ : ∃ W0, (w.alloc (.cells (cellsB (rep 288 0)) 48)).alloc (.cells (cellsB (rep 288 0)) 48) = W0 := ⟨_, rfl⟩
  rw [hW0] at b1 b2 hB
  skip
  go_enter Try.func34, Try.ntmps34
  go_wp2_with fail
  clear hz hW0
  obtain ⟨b, hb⟩ : ∃ b, w.heap.size = b := ⟨_, rfl⟩
  rw [hb] at b1 b2 hB ⊢
  go_loopw [2] (fun i wr => ∃ k : Nat, k ≤ 256 ∧ i = .int .i64 k ∧ Box wr b 48 (cellsB (rep 288 0)) ∧ Box wr (b + 1) 48 (cellsB (fillTo 288 (k) 255 0)) ∧ Below b w wr) (fun i _ => 256 - (intOf i).toNat)
  case atStart => exact ⟨0, by omega, rfl, b1, by rw [fillTo_zero]; exact b2, hB⟩
  case round =>
    clear b1 b2 hB
    obtain ⟨k, hk, rfl, b1, b2, hB⟩ := hrel
    by_cases hlt : k < 256
    · have hl := fillTo_len 288 (k) 255 0 (by omega)
      obtain ⟨x0, c0⟩ : ∃ x, wr.cell? ⟨b + 1, k, none⟩ = some x := ⟨_, b2.get (k) _ (cellsB_get _ (k) (by omega))⟩
      have hf := b2.frozen (k)
      have b3 := b2.set (k) (byteV 255)
      rw [cellsB_set, fillTo_set 288 (k) 255 0 (by omega)] at b3
      have hB2 := hB.setCell (p := ⟨b + 1, k, none⟩) (by show b ≤ b + 1; omega) (byteV 255)
      have b4 := b1.far ⟨b + 1, k, none⟩ (byteV 255) (by show b + 1 ≠ b; omega)
      rw [show byteV 255 = Value.int .u8 255 from rfl] at b3 hB2 b4
      have hI0 : (0 : Int) ≤ (k : Int) := by omega
      have hI1 : (k : Int) < 256 := by omega
      replace b3 := Lib.hid b3
      replace hB2 := Lib.hid hB2
      replace b4 := Lib.hid b4
      clear b1 b2 hB hl
      go_wp2_with fail
      go_roundw
      case rel => exact ⟨k + 1, by omega, by go_num, b4.out, b3.out, hB2.out⟩
      case measure => simp [intOf]; omega
    · have hk' : k = 256 := by omega
      subst hk'
      go_wp2_with fail
      go_loopw [3] (fun i wr => ∃ k : Nat, k ≤ 32 ∧ i = .int .i64 k ∧ Box wr b 48 (cellsB (rep 288 0)) ∧ Box wr (b + 1) 48 (cellsB (fillTo 288 (256 + k) 255 0)) ∧ Below b w wr) (fun i _ => 32 - (intOf i).toNat)
      case atStart => exact ⟨0, by omega, rfl, b1, b2, hB⟩
      case round =>
        clear b1 b2 hB
        obtain ⟨k, hk, rfl, b1, b2, hB⟩ := hrel
        by_cases hlt : k < 32
        · have hl := fillTo_len 288 (256 + k) 255 0 (by omega)
          obtain ⟨x0, c0⟩ : ∃ x, wr.cell? ⟨b + 1, 256 + k, none⟩ = some x := ⟨_, b2.get (256 + k) _ (cellsB_get _ (256 + k) (by omega))⟩
          have hf := b2.frozen (256 + k)
          have b3 := b2.set (256 + k) (byteV 255)
          rw [cellsB_set, fillTo_set 288 (256 + k) 255 0 (by omega)] at b3
          have hB2 := hB.setCell (p := ⟨b + 1, 256 + k, none⟩) (by show b ≤ b + 1; omega) (byteV 255)
          have b4 := b1.far ⟨b + 1, 256 + k, none⟩ (byteV 255) (by show b + 1 ≠ b; omega)
          rw [show byteV 255 = Value.int .u8 255 from rfl] at b3 hB2 b4
          have hI0 : (0 : Int) ≤ (k : Int) := by omega
          have hI1 : (k : Int) < 32 := by omega
          replace b3 := Lib.hid b3
          replace hB2 := Lib.hid hB2
          replace b4 := Lib.hid b4
          clear b1 b2 hB hl
          go_wp2_with fail
          go_roundw
          case rel => exact ⟨k + 1, by omega, by go_num, b4.out, b3.out, hB2.out⟩
          case measure => simp [intOf]; omega
        · have hk' : k = 32 := by omega
          subst hk'
          rw [show 256 + 32 = 288 from rfl, fillTo_all] at b2
          have hlv := b2.loadPg (rep_len 288 255)
          obtain ⟨hst, b5, hg⟩ := b1.storePg (l := rep 288 255) (by simp) (by simp)
          have hB5 := hB.grown hg (by rw [← hb]; exact hB.size) (fun k e => by cases e; exact Nat.le_refl _)
          replace b5 := Lib.hid b5
          replace hB5 := Lib.hid hB5
          clear b1 b2 hB hg
          go_wp2_with (first | (refine wpList_load_var rfl 48 _ rfl _ rfl _ hlv ?_) | (refine wpList_store_var rfl 48 _ _ rfl _ rfl _ rfl hst ?_))
          exact bodyPost_ret (res34 b5.out (rep_len 288 255) rfl) rfl ⟨rfl, by rw [hb]; exact hB5.out⟩
end Go.Proofs.Ytlgjlhgdpiipbaa
