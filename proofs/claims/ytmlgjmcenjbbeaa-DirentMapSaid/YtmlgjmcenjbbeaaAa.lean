/- The law's begun; slices.Equal of entries; bytes.Equal of blocks. -/
import Derived.Test.YtmlgjmcenjbbeaaZ
namespace Go.Proofs.Ytmlgjmcenjbbeaa
open Go.RowKit
namespace Nm
def begunE : Ent := ⟨[97], 2, 1⟩
def begunB : List UInt8 := put empty ⟨0, 256, begunE⟩
theorem begun_add : add empty begunE = (some begunB, 0) := by decide +kernel
theorem begun_find : findIn (ents begunB) [97] = some begunE := by decide +kernel
theorem begun_pre : Lib.hasPrefix begunB [0, 0, 0, 2, 1, 0, 1, 1, 97] = true := by decide +kernel
theorem begun_len : begunB.length = 256 := by decide +kernel
theorem begun_name : name [97, 47, 98] = 161 := by decide +kernel
end Nm
theorem bytesOf_nums (l : List UInt8) : Lib.bytesOf (l.map fun c => (c.toNat : Int)) = l := by
  unfold Lib.bytesOf
  rw [List.map_map]
  exact (List.map_congr_left (fun c _ => by simp)).trans (List.map_id l)
theorem empty256 (w : World) : Calls Try.prog 18 #[] w fun e w' => ∃ g cap, e = .returned (.slice (some ⟨g, 0, none⟩) 256 cap) ∧ OwnB w' g cap Nm.empty ∧ Below w.heap.size w w' :=
  (empty_any w).mono (by
    rintro e w' ⟨g, cap, rfl, _, h⟩
    exact ⟨g, cap, by rw [Nm.empty_len], h⟩)
theorem beg_add (g cap : Nat) (w : World) (h : OwnB w g cap Nm.empty) : Calls Try.prog 26 #[.slice (some ⟨g, 0, none⟩) 256 cap, .agg #[.string ⟨#[97]⟩, .int .i64 2, .int .i64 1]] w fun e w' =>
    ∃ g cap, e = .returned (.tuple #[.slice (some ⟨g, 0, none⟩) 256 cap, .int .i64 0]) ∧ OwnB w' g cap Nm.begunB ∧ Below w.heap.size w w' := by
  have hrd := h.rd
  rw [Nm.empty_len] at hrd
  have := add_any Nm.empty Nm.begunE _ w hrd
  rw [Nm.begun_add] at this
  refine (show Calls Try.prog 26 #[.slice (some ⟨g, 0, none⟩) 256 cap, .agg #[.string ⟨#[97]⟩, .int .i64 2, .int .i64 1]] w (OutRes (some Nm.begunB, 0) w) from this).mono ?_
  rintro e w' ⟨u, rfl, ⟨g', cap', rfl, _, ho⟩, hb⟩
  exact ⟨g', cap', by rw [Nm.begun_len], ho, hb⟩
theorem beg_find (g cap : Nat) (w : World) (h : OwnB w g cap Nm.begunB) : Calls Try.prog 7 #[.slice (some ⟨g, 0, none⟩) 256 cap, .string ⟨#[97]⟩] w fun e w' =>
    e = .returned (.tuple #[.agg #[.string ⟨#[97]⟩, .int .i64 2, .int .i64 1], .bool true]) ∧ Below w.heap.size w w' := by
  have hrd := h.rd
  rw [Nm.begun_len] at hrd
  have := find_any Nm.begunB [97] _ w hrd
  rw [Nm.begun_find] at this
  exact this
theorem beg_pre (g cap b : Nat) (w : World) (h : OwnB w g cap Nm.begunB) (hb : ∀ j, w.cell? ⟨b, j, none⟩ = (#[.int .u8 0, .int .u8 0, .int .u8 0, .int .u8 2, .int .u8 1, .int .u8 0, .int .u8 1, .int .u8 1, .int .u8 97] : Array Value)[j]?) :
    Calls Try.prog 37 #[.slice (some ⟨g, 0, none⟩) 256 cap, .slice (some ⟨b, 0, none⟩) 9 9] w fun e w' => e = .returned (.bool true) ∧ w' = w := by
  have hl := Nm.begun_len
  have hc : 256 ≤ cap := by obtain ⟨_, _, _, hc, _⟩ := h; omega
  have := Try.bytes_HasPrefix g 0 256 cap b 0 9 9 (Nm.begunB.map fun c => (c.toNat : Int)) (([0, 0, 0, 2, 1, 0, 1, 1, 97] : List UInt8).map fun c => (c.toNat : Int)) w (by rw [List.length_map, hl]) rfl hc
    (fun i hi => by
      rw [Nat.zero_add, h.cell i (by omega), List.getD_eq_getElem?_getD, List.getElem?_map, List.getElem?_eq_getElem (by omega)]; rfl)
    (fun i hi => by
      rw [Nat.zero_add, hb i]
      match i, hi with
      | 0, _ => rfl
      | 1, _ => rfl
      | 2, _ => rfl
      | 3, _ => rfl
      | 4, _ => rfl
      | 5, _ => rfl
      | 6, _ => rfl
      | 7, _ => rfl
      | 8, _ => rfl)
  rw [bytesOf_nums, bytesOf_nums, Nm.begun_pre] at this
  exact this
theorem beg_name (w : World) : Calls Try.prog 11 #[.string ⟨#[97, 47, 98]⟩] w fun e w' => e = .returned (.int .i64 161) ∧ w' = w := by
  have := name_any [97, 47, 98] w
  rw [Nm.begun_name] at this
  exact this
set_option maxRecDepth 100000 in
set_option maxHeartbeats 4000000 in
theorem begun_any (w : World) : Calls Try.prog 10 #[] w (BoolB true w) := by
  go_enter Try.func10, Try.ntmps10
  go_wp2_with fail
  refine (empty256 _).mono ?_
  rintro e w1 ⟨g1, q1, rfl, ho1, hb1⟩
  go_wp2_with fail
  refine (beg_add g1 q1 w1 ho1).mono ?_
  rintro e w2 ⟨g, q, rfl, ho2, hb2⟩
  have hB2 := hb1.trans (hb2.mono hb1.size)
  clear hb1 hb2 ho1
  replace hB2 := Lib.hid hB2
  go_wp2_with fail
  refine (beg_find g q w2 ho2).mono ?_
  rintro e w3 ⟨rfl, hb3⟩
  have hB3 := hB2.out.trans (hb3.mono hB2.out.size)
  have ho3 := ho2.below hb3
  clear hb3 ho2 hB2
  have bx := Box.new w3 24 #[.string ⟨#[97]⟩, .int .i64 2, .int .i64 1]
  have ho4 := ho3.alloc (.cells #[.string ⟨#[97]⟩, .int .i64 2, .int .i64 1] 24)
  have hB4 := hB3.alloc hB3.size (.cells #[.string ⟨#[97]⟩, .int .i64 2, .int .i64 1] 24)
  have hB5 := hB4.alloc hB4.size (.cells #[.int .u8 0, .int .u8 0, .int .u8 0, .int .u8 2, .int .u8 1, .int .u8 0, .int .u8 1, .int .u8 1, .int .u8 97] 5)
  have hpre := beg_pre g q _ _ (ho4.alloc (.cells #[.int .u8 0, .int .u8 0, .int .u8 0, .int .u8 2, .int .u8 1, .int .u8 0, .int .u8 1, .int .u8 1, .int .u8 97] 5)) ((Box.new _ 5 #[.int .u8 0, .int .u8 0, .int .u8 0, .int .u8 2, .int .u8 1, .int .u8 0, .int .u8 1, .int .u8 1, .int .u8 97]).cell)
  rw [World.size_alloc] at hpre
  replace hpre := Lib.hid hpre
  replace hB5 := Lib.hid hB5
  clear ho3 ho4 hB3 hB4 bx
  go_wp2_with (first | (go_at_call 37; refine hpre.out.mono ?_; rintro e w' ⟨rfl, hw⟩; obtain rfl := hw.symm) | (go_at_call 11; refine (beg_name _).mono ?_; rintro e w' ⟨rfl, hw⟩; obtain rfl := hw.symm))
  go_ret
  exact ⟨rfl, hB5.out⟩
end Go.Proofs.Ytmlgjmcenjbbeaa
