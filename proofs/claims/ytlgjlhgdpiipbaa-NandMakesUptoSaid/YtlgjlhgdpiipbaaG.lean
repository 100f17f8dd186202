/- The reference's Mask 63. -/
import Derived.Test.YtlgjlhgdpiipbaaF
import Derived.OwnWalk
namespace Go.Proofs.Ytlgjlhgdpiipbaa
open Go.RowKit
theorem take_snoc (l : List UInt8) (k : Nat) (h : k < l.length) : (l.take (k + 1)).map byteV = (l.take k).map byteV ++ [byteV l[k]] := by
  rw [List.take_succ_eq_append_getElem h, List.map_append]; rfl
set_option maxRecDepth 100000 in
set_option maxHeartbeats 4000000 in
theorem maskr_any (l m : List UInt8) (v u : Value) (w : World) (hr : RdB w v l) (hu : RdB w u m) (hl : l.length ≤ 1048576) (hm : m.length ≤ 1048576) :
    Calls Try.prog 63 #[v, u] w fun e w' => ∃ x, e = .returned x ∧ w'.ownsRow w.heap.size 5 1 x l.length ((mask l m).map byteV) ∧ Below w.heap.size w w' := by
  obtain ⟨i0, hi0, hz0, hz1, hz2⟩ := info_parts infoByte
  obtain ⟨ua, uc, hue⟩ := hu.len
  obtain ⟨mn, hmn⟩ : ∃ mn, m.length = mn := ⟨_, rfl⟩
  rw [hmn] at hue hm
  subst hue
  replace hmn := Lib.hid hmn
  obtain ⟨va, vc, hve⟩ := hr.len
  subst hve
  have hrw := Lib.hid (fun (W : World) (hW : Below w.heap.size w W) => hr.below hW)
  have huw := Lib.hid (fun (W : World) (hW : Below w.heap.size w W) => hu.below hW)
  have hlm := Lib.hid (mask_len l m)
  clear hr hu
  go_enter Try.func63, Try.ntmps63
  go_wp2_with fail
  go_loopw [5, 6] (fun o i wr => ∃ k : Nat, k ≤ l.length ∧ i = .int .i64 k ∧ wr.ownsRow w.heap.size 5 1 o k (((mask l m).take k).map byteV) ∧ Below w.heap.size w wr) (fun _ i _ => l.length - (intOf i).toNat)
  case atStart => exact ⟨0, by omega, rfl, World.ownsRow_nil _ _ _ _, Below.refl _ _⟩
  case round =>
    obtain ⟨k, hk, rfl, hown, hB⟩ := hrel
    by_cases hlt : k < l.length
    · obtain ⟨b0, o0, q0, hv0, _, _, hcell0⟩ := (hrw.out wr hB).at (by intro e; rw [e] at hlt; simp at hlt)
      cases hv0
      have c0 := hcell0 k hlt
      have hkl : k < (mask l m).length := by rw [hlm.out]; exact hlt
      have hsn := Lib.hid (take_snoc (mask l m) k hkl)
      have hI0 : (0 : Int) ≤ (k : Int) := by omega
      have hI1 : (k : Int) < (l.length : Int) := by omega
      clear hcell0
      have hsz := hB.size
      by_cases hm0 : m = []
      · have hx : (mask l m)[k] = l[k] := List.getElem_of_eq (by rw [hm0, mask_nil]) _
        have hmn0 : mn = 0 := by rw [← hmn.out, hm0]; rfl
        have hmI : ¬ ((mn : Int) > 0) := by omega
        replace hm0 := Lib.hid hm0
        rw [hx] at hsn
        obtain ⟨x, hxe⟩ : ∃ x, l[k] = x := ⟨_, rfl⟩
        rw [hxe] at hsn
        replace c0 : wr.cell? ⟨b0, o0 + k, none⟩ = some (byteV x) := by rw [← hxe]; exact c0
        clear hxe hx
        unfold byteV at c0
        clear hmn0
        go_wp2_with (at_builtin; refine wpList_append_own _ rfl _ _ 65 rfl w.heap.size 5 i0 (.int .u8 0) 1 1 Try.underlying65 hi0 hz0 hz1 hz2 rfl (by decide) _ _ _ rfl (hown.alloc _) ⟨wr.heap.size, 0, none⟩ 1 1 [.int .u8 x.toNat] rfl rfl ?c1 ?c2 ?c3 ?c4 ?c5 ?_)
        case c2 => simp [Value.oneCell']
        case c3 => unfold maxLen; omega
        case c4 => omega
        case c5 => (first | omega | (simp; omega))
        intro v' w1 hown1 hgrow _
        go_wp2_with fail
        go_roundw
        case rel => exact ⟨k + 1, by omega, by go_num, by rw [hsn.out]; simpa [byteV, List.map_take] using hown1, below_push' hB (Nat.le_refl _) hown hgrow⟩
        case measure => simp [intOf]; omega
      · have hm1 : 0 < mn := by rw [← hmn.out]; exact List.length_pos_iff.2 hm0
        have hmI : (0 : Int) < (mn : Int) := by omega
        have hmz : ¬ mn = 0 := by omega
        obtain ⟨b2, o2, q2, hv2, _, _, hcell2⟩ := (huw.out wr hB).at hm0
        rw [hmn.out] at hv2
        cases hv2
        have hkm : k % mn < m.length := by rw [hmn.out]; exact Nat.mod_lt _ hm1
        have c1 := hcell2 (k % mn) hkm
        have hx : (mask l m)[k] = l[k] ||| m[k % mn] := by
          rw [mask_get l m k hlt hm0 hkl, hmn.out, List.getD_eq_getElem?_getD, List.getElem?_eq_getElem hkm, Option.getD_some]
        rw [hx] at hsn
        have hrem := irem k mn hm1
        obtain ⟨x, hxe⟩ : ∃ x, l[k] = x := ⟨_, rfl⟩
        obtain ⟨y, hye⟩ : ∃ y, m[k % mn] = y := ⟨_, rfl⟩
        rw [hxe, hye] at hsn
        rw [hxe] at c0
        rw [hye] at c1
        clear hxe hye hx hcell2
        unfold byteV at c0 c1
        have hor := or_u8 x y
        have hI2 : ((k % mn : Nat) : Int) < (mn : Int) := by have := Nat.mod_lt k hm1; omega
        have hI3 : (0 : Int) ≤ ((k % mn : Nat) : Int) := by omega
        go_wp2_with (at_builtin; refine wpList_append_own _ rfl _ _ 65 rfl w.heap.size 5 i0 (.int .u8 0) 1 1 Try.underlying65 hi0 hz0 hz1 hz2 rfl (by decide) _ _ _ rfl (hown.alloc _) ⟨wr.heap.size, 0, none⟩ 1 1 [.int .u8 ((x.toNat ||| y.toNat : Nat) : Int)] rfl rfl (World.news_of_block (cs := #[.int .u8 ((x.toNat ||| y.toNat : Nat) : Int)]) (t := 5) (fr := (0, 0)) (heap_alloc_new wr _)) ?c2 ?c3 ?c4 ?c5 ?_)
        case c2 => simp [Value.oneCell']
        case c3 => unfold maxLen; omega
        case c4 => omega
        case c5 => (first | omega | (simp; omega))
        intro v' w1 hown1 hgrow _
        go_wp2_with fail
        go_roundw
        case rel => exact ⟨k + 1, by omega, by go_num, by rw [hsn.out]; simpa [byteV, List.map_take] using hown1, below_push' hB (Nat.le_refl _) hown hgrow⟩
        case measure => simp [intOf]; omega
    · have hk' : k = l.length := by omega
      subst hk'
      rw [List.take_of_length_le (by rw [hlm.out]; exact Nat.le_refl _)] at hown
      replace hown := Lib.hid hown
      replace hB := Lib.hid hB
      go_wp2_with fail
      go_ret
      exact ⟨_, rfl, hown.out, hB.out⟩
end Go.Proofs.Ytlgjlhgdpiipbaa
