import Derived.Test.YtpoongljokbgcaaDoorE
import Derived.Test.YtpoongljokbgcaaDoorJ
import Derived.Lib.ItoaNum
import Derived.Lib.ItoaLen
namespace Go.Proofs.YtpoongljokbgcaaDoor
open Go.RowKit
theorem below_lit {w wr w1 : World} {B : Nat} {o : Obj} {n c : Nat} (hW : Below B w wr) (hB : B ≤ w.heap.size)
    (hg : (wr.alloc o).grownBy w1 (Value.slice (some ⟨wr.heap.size, 0, none⟩) n c).ownBlock) : Below B w w1 :=
  (hW.alloc (Nat.le_trans hB hW.size) o).grown hg (by have := hW.size; simp; omega) (fun k hk => by cases hk; exact Nat.le_trans hB hW.size)
theorem digit_byte (v : Nat) : IntKind.u8.wrap (IntKind.u64.wrap (48 + (v % 10 : Nat))) = ((UInt8.ofNat (48 + v % 10)).toNat : Int) := by
  rw [IntWalk.u64_in _ (by omega), IntWalk.u8_in _ (by omega)]
  simp; omega
theorem decDigits_step (v : Nat) (h : 9 < v) : Lib.decDigits v = Lib.decDigits (v / 10) ++ [UInt8.ofNat (48 + v % 10)] := by
  rw [Lib.decDigits, dif_neg (by omega)]
theorem decDigits_last (v : Nat) (h : ¬ 9 < v) : Lib.decDigits v = [UInt8.ofNat (48 + v)] := Lib.decDigits_one (by omega)
set_option maxRecDepth 100000 in
set_option maxHeartbeats 1000000 in
theorem num_any (n : Int) (w : World) (h0 : -9223372036854775808 ≤ n) (h1 : n ≤ 9223372036854775807) :
    Calls Tryd.prog 43 #[.int .i64 n] w (TextBelow (Lib.itoa n) w) := by
  obtain ⟨i0, hi0, hz0, hz1, hz2⟩ := info_parts infoByte
  have hmax := Lib.itoa_length_le n h0 h1
  by_cases hn : n < 0
  all_goals
    obtain ⟨U, hUn, hUl⟩ : ∃ U : Nat, n.natAbs = U ∧ (Lib.decDigits U).length ≤ 21 := ⟨_, rfl, by
      unfold Lib.itoa at hmax
      first
        | (rw [if_pos hn] at hmax; simp at hmax; omega)
        | (rw [if_neg hn] at hmax; rw [show n.natAbs = n.toNat by omega]; exact hmax)⟩
    have hfin := Lib.hid (show Lib.itoa n = (if n < 0 then [45] else []) ++ Lib.decDigits U by
      unfold Lib.itoa
      first
        | (rw [if_pos hn, if_pos hn, hUn]; rfl)
        | (rw [if_neg hn, if_neg hn, ← hUn, show n.natAbs = n.toNat by omega]; rfl))
    have hU0 : U ≤ 9223372036854775808 := by omega
    have e1 : IntKind.u64.wrap n = if n < 0 then 18446744073709551616 - (U : Int) else U := by
      rw [IntKind.wrap_u64]; split <;> omega
    obtain ⟨V, hV⟩ : ∃ V : Int, (if n < 0 then 18446744073709551616 - (U : Int) else U) = V := ⟨_, rfl⟩
    have e2 : n < 0 → IntKind.u64.wrap (-V) = U := by
      intro h; rw [← hV, if_pos h, IntKind.wrap_u64]; omega
    rw [hV] at e1
    first | replace e2 := e2 hn | (rw [if_neg hn] at hV; subst hV; clear e2)
    replace hU0 := Lib.hid hU0
    clear hmax hUn
    replace h0 := Lib.hid h0
    replace h1 := Lib.hid h1
    (try replace hV := Lib.hid hV)
    go_enter Tryd.func43, Tryd.ntmps43
    go_wp2_with fail
    go_loopw [3, 4] (fun u b wr => ∃ (v : Nat) (acc : List UInt8), u = .int .u64 v ∧ v ≤ U ∧ wr.ownsRow w.heap.size 5 1 b acc.length (Lib.byteCells acc) ∧ Below w.heap.size w wr ∧ Lib.decDigits U = Lib.decDigits v ++ acc)
      (fun u _ _ => (intOf u).toNat)
    case atStart => exact ⟨U, [], rfl, Nat.le_refl _, World.ownsRow_nil _ _ _ _, Below.refl _ _, by simp⟩
    case round =>
      obtain ⟨v, acc, rfl, hv, hown, hW, hd⟩ := hrel
      have hal : acc.length ≤ 21 := by rw [hd] at hUl; simp at hUl; omega
      have hsz := hW.size
      have hvU := Lib.hid (Nat.le_trans hv hU0.out)
      by_cases h9 : 9 < v
      · have hs := Lib.hid (decDigits_step v h9)
        replace hd := Lib.hid hd
        have e5 : IntKind.u64.wrap ((v : Int) / 10) = (v : Int) / 10 := by have := hvU.out; rw [IntKind.wrap_u64]; omega
        obtain ⟨c, hc, hs'⟩ : ∃ c : UInt8, (48 + (v : Int) % 10) = (c.toNat : Int) ∧ Lib.decDigits v = Lib.decDigits (v / 10) ++ [c] := ⟨UInt8.ofNat (48 + v % 10), by simp; omega, hs.out⟩
        replace hc := Lib.hid hc
        replace hs' := Lib.hid hs'
        go_wp2_with (at_builtin; refine wpList_append_both rfl _ _ 28 rfl w.heap.size 5 i0 (.int .u8 0) 1 1 Tryd.underlying28 hi0 hz0 hz1 hz2 rfl (by decide) _ 1 [.int .u8 (48 + (v : Int) % 10)] rfl (own_lit wr w.heap.size 5 _ hsz) w.heap.size _ acc.length (Lib.byteCells acc) rfl (hown.alloc _) (byteCells_one acc) (by unfold maxLen; omega) (by omega) (by simp; omega) ?_; intro v' w1 hown1 hgrow)
        go_wp2_with fail
        go_roundw
        case rel => exact ⟨v / 10, c :: acc, by go_num, by omega, by rw [hc.out] at hown1; simpa [byteCells_cons, Nat.add_comm] using hown1, below_lit hW (Nat.le_refl _) hgrow, by rw [hd.out, hs'.out]; simp⟩
        case measure => simp [intOf]; omega
      · have hs := Lib.hid (decDigits_last v h9)
        replace hd := Lib.hid hd
        obtain ⟨c, hc, hs'⟩ : ∃ c : UInt8, (48 + (v : Int)) = (c.toNat : Int) ∧ Lib.decDigits U = c :: acc := ⟨UInt8.ofNat (48 + v), by simp; omega, by rw [hd.out, hs.out]; rfl⟩
        replace hc := Lib.hid hc
        replace hs' := Lib.hid hs'
        go_wp2_with (at_builtin; refine wpList_append_both rfl _ _ 28 rfl w.heap.size 5 i0 (.int .u8 0) 1 1 Tryd.underlying28 hi0 hz0 hz1 hz2 rfl (by decide) _ 1 [.int .u8 (48 + (v : Int))] rfl (own_lit wr w.heap.size 5 _ hsz) w.heap.size _ acc.length (Lib.byteCells acc) rfl (hown.alloc _) (byteCells_one acc) (by unfold maxLen; omega) (by omega) (by simp; omega) ?_; intro v' w1 hown1 hgrow)
        rw [hc.out] at hown1
        have hcv := convert_rd (P := Tryd.prog) Tryd.underlying28 Tryd.underlying5 Tryd.underlying9 (Rd.of_own (enc := byteV) (xs := c :: acc) (by rw [Nat.add_comm] at hown1; exact hown1))
        rw [hcv]
        go_wp2_with fail
        go_ret
        exact ⟨by rw [hfin.out, hs'.out]; first | (rw [if_pos hn, ← S_append]; rfl) | (rw [if_neg (by omega)]; rfl), below_lit hW (Nat.le_refl _) hgrow⟩
end Go.Proofs.YtpoongljokbgcaaDoor
