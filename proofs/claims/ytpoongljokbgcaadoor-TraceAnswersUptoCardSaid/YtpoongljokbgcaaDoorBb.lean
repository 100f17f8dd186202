/- The reference's bytes as a word (slipwayref27.bytes). -/
import Derived.Test.YtpoongljokbgcaaDoorBa
import Derived.Laws.MakeOwn
namespace Go.Proofs.YtpoongljokbgcaaDoor
open Go.RowKit
theorem digs_at (n : Nat) (hn : n < 16) (W : World) : (Instr.index 9 (.string ⟨#[48, 49, 50, 51, 52, 53, 54, 55, 56, 57, 97, 98, 99, 100, 101, 102]⟩) (.int .u8 n)).run Tryd.prog W = .ok (.int .u8 (Tr.dg n).toNat) W := by
  have := run_index_S (P := Tryd.prog) W 9 Tr.dgs .u8 n Tryd.underlying9
  rw [if_pos ⟨by omega, by simp [Tr.dgs]; omega⟩] at this
  exact this
theorem digs_div (c : UInt8) (W : World) : (Instr.index 9 (.string ⟨#[48, 49, 50, 51, 52, 53, 54, 55, 56, 57, 97, 98, 99, 100, 101, 102]⟩) (.int .u8 ((c.toNat : Int) / 16))).run Tryd.prog W = .ok (.int .u8 (Tr.dg (c.toNat / 16)).toNat) W := by
  have hc : c.toNat < 256 := c.toNat_lt
  have := digs_at (c.toNat / 16) (by omega) W
  rw [show ((c.toNat / 16 : Nat) : Int) = (c.toNat : Int) / 16 by omega] at this
  exact this
theorem digs_mod (c : UInt8) (W : World) : (Instr.index 9 (.string ⟨#[48, 49, 50, 51, 52, 53, 54, 55, 56, 57, 97, 98, 99, 100, 101, 102]⟩) (.int .u8 ((c.toNat : Int) % 16))).run Tryd.prog W = .ok (.int .u8 (Tr.dg (c.toNat % 16)).toNat) W := by
  have := digs_at (c.toNat % 16) (by omega) W
  rw [show ((c.toNat % 16 : Nat) : Int) = (c.toNat : Int) % 16 by omega] at this
  exact this
set_option maxRecDepth 100000 in
set_option maxHeartbeats 4000000 in
theorem bytesr_any (v : Value) (l : List UInt8) (w : World) (hr : RdB w v l) (hl : 2 * l.length + 1 ≤ 140737488355328) :
    Calls Tryd.prog 64 #[v] w (TextBelow (Tr.hexes l) w) := by
  obtain ⟨i0, hi0, hz0, hz1, hz2⟩ := info_parts infoByte
  have hat : l ≠ [] → _ := hr.at
  obtain ⟨a, cap, rfl⟩ := hr.len
  obtain ⟨W0, hmk, hown0, hg0⟩ := run_make_own (P := Tryd.prog) w w.heap.size 28 5 i0 (.int .u8 0) 1 Tryd.underlying28 hi0 hz0 hz1 .i64 .i64 (2 * l.length + 1) (by rw [hz2]; omega) (by unfold maxLen; omega) (Nat.le_refl _)
  have hB0 : Below w.heap.size w W0 := (Below.refl _ w).grown hg0 (Nat.le_refl _) (fun k hk => by cases hk)
  rw [show ((2 * l.length + 1 : Nat) : Int) = 1 + 2 * (l.length : Int) by omega] at hmk
  have hz := hB0.size
  replace hat := Lib.hid hat
  replace hB0 := Lib.hid hB0
  clear hr hg0
  go_enter Tryd.func64, Tryd.ntmps64
  go_wp2_with (at_builtin; go_must (refine wpList_append_lies _ rfl _ _ 28 rfl w.heap.size 5 i0 (.int .u8 0) 1 1 Tryd.underlying28 hi0 hz0 hz1 hz2 rfl (by decide) (.slice (some ⟨w.heap.size, 0, none⟩) 0 (2 * l.length + 1)) 0 [] rfl (hown0.alloc _) ⟨W0.heap.size, 0, none⟩ 1 1 [.int .u8 120] rfl rfl (World.news_of_block (heap_alloc_new W0 (.cells #[.int .u8 120] 5))) (by simp [Value.oneCell']) (by omega) (by unfold maxLen; omega) (by omega) (by rw [World.size_alloc]; omega) _ rfl ?_); intro vg vc w1 hown1 hgrow _ _)
  have hB1 : Below w.heap.size w w1 := (hB0.out.alloc hz (.cells #[.int .u8 120] 5)).grown hgrow (by rw [World.size_alloc]; omega) (fun k hk => by cases hk; exact Nat.le_refl _)
  go_loopw [3, 4] (fun o k wr => ∃ i : Nat, i ≤ l.length ∧ k = .int .i64 i ∧ wr.ownsRow w.heap.size 5 1 o (1 + 2 * i) (Lib.byteCells (120 :: (l.take i).flatMap Tr.hexB)) ∧ Below w.heap.size w wr)
    (fun _ k _ => l.length - (intOf k).toNat)
  case atStart => exact ⟨0, Nat.zero_le _, rfl, hown1, hB1⟩
  case round =>
    clear hmk hown0 hz hown1 hgrow hB1
    obtain ⟨i, hi, rfl, hown, hW⟩ := hrel
    have hsz := hW.size
    by_cases hlt : i < l.length
    · have hne : l ≠ [] := by intro h; rw [h] at hlt; simp at hlt
      obtain ⟨b, o, cap', hv, hcap, hb, hcell⟩ := hat.out hne
      cases hv
      have hc0 := hcell i hlt
      rw [← hW.cell (p := ⟨b, o + i, none⟩) hb] at hc0
      clear hcell hat hne
      have hts := Lib.hid (take_hex l i hlt)
      obtain ⟨c, hc⟩ : ∃ c, l[i] = c := ⟨_, rfl⟩
      rw [hc] at hts hc0
      unfold byteV at hc0
      replace hc := Lib.hid hc
      have hcn : c.toNat < 256 := c.toNat_lt
      have e2 := u8_and15 c.toNat hcn
      have i1 := digs_div c
      have i2 := digs_mod c
      have hI0 : (0 : Int) ≤ (i : Int) := by omega
      have hI1 : (i : Int) < (l.length : Int) := by omega
      obtain ⟨p, hp⟩ : ∃ p, Tr.dg (c.toNat / 16) = p := ⟨_, rfl⟩
      obtain ⟨q, hq⟩ : ∃ q, Tr.dg (c.toNat % 16) = q := ⟨_, rfl⟩
      rw [hp] at i1
      rw [hq] at i2
      replace hp := Lib.hid hp
      replace hq := Lib.hid hq
      go_wp2_with fail
      have hbw : b < wr.heap.size := by omega
      have hne : some b ≠ Value.ownBlock _ := fun h => by have := (hown.lt _ h.symm).1; omega
      have hN := Lib.hid (World.news_of_block (w := wr.alloc (.cells #[.int .u8 p.toNat, .int .u8 q.toNat] 5)) (cs := #[.int .u8 p.toNat, .int .u8 q.toNat]) (t := 5) (fr := (0, 0)) (heap_alloc_new wr _))
      go_region_held3 (fun w' => w'.cell? ⟨b, o + i, none⟩ = some (.int .u8 c.toNat))
        (first | assumption | (rw [World.cell?_alloc_lt _ _ _ (by simp; omega)]; assumption) | (refine (hgrow.cell_far _ (by show b < (wr.alloc _).heap.size; rw [World.size_alloc]; omega) hne).trans ?_; show (wr.alloc _).cell? _ = _; rw [World.cell?_alloc_lt _ _ _ (by simp; omega)]; exact hc0) | go_keep)
        ((refine step_append_lies _ (by rfl) (.tmp 19) (.tmp 32) 28 (by rfl) w.heap.size 5 i0 _ 1 1 Tryd.underlying28 hi0 hz0 hz1 hz2 rfl (by omega) _ (1 + 2 * i) (Lib.byteCells (120 :: (l.take i).flatMap Tr.hexB)) (by rfl) ((hown.alloc _).drew) ⟨wr.heap.size, 0, none⟩ 2 2 [.int .u8 p.toNat, .int .u8 q.toNat] (by rfl) (by rfl) hN.out (by simp [Value.oneCell']) (by omega) (by unfold maxLen; omega) (by omega) (by simp; omega) (wr.heap.size + 1) (by simp) ?_; intro gg cc w5 hown5 hgrow hat hlt5))
      all_goals
        go_wp2_with fail
        go_roundw
        case rel =>
          refine ⟨i + 1, by omega, by go_num, ?_, (((hW.alloc hsz _).drew).grown hgrow (by show w.heap.size ≤ (wr.alloc _).heap.size; rw [World.size_alloc]; omega) (fun k hk => (hown.lt k hk).1))⟩
          have e9 : Lib.byteCells (120 :: (l.take (i + 1)).flatMap Tr.hexB) = Lib.byteCells (120 :: (l.take i).flatMap Tr.hexB) ++ [.int .u8 p.toNat, .int .u8 q.toNat] := by
            rw [hts.out]; unfold Tr.hexB; rw [hp.out, hq.out]; simp [Lib.byteCells]
          rw [e9, show 1 + 2 * (i + 1) = 1 + 2 * i + 2 by omega]
          exact hown5
        case measure => simp [intOf]; omega
    · have hi' : i = l.length := by omega
      subst hi'
      rw [List.take_length] at hown
      have hL : (120 :: l.flatMap Tr.hexB).length = 1 + 2 * l.length := by rw [List.length_cons, hexflat_len]; omega
      have hcv := convert_rd (P := Tryd.prog) Tryd.underlying28 Tryd.underlying5 Tryd.underlying9 (Rd.of_own (enc := byteV) (xs := 120 :: l.flatMap Tr.hexB) (by rw [hL]; exact hown))
      replace hL := Lib.hid hL
      go_wp2_with fail
      go_ret
      exact ⟨rfl, hW⟩
end Go.Proofs.YtpoongljokbgcaaDoor
