/- seal.Mask 47. -/
import Derived.Test.YtlgjlhgdpiipbaaE
namespace Go.Proofs.Ytlgjlhgdpiipbaa
open Go.RowKit
theorem irem (a b : Nat) (hb : 0 < b) : Int.tmod (a : Int) (b : Int) = ((a % b : Nat) : Int) := by
  rw [Int.tmod_eq_emod_of_nonneg (by omega)]; rfl
set_option maxRecDepth 100000 in
set_option maxHeartbeats 4000000 in
theorem mask_any (l m : List UInt8) (v u : Value) (w : World) (hr : RdB w v l) (hu : RdB w u m) (hne : l ≠ []) (hl : l.length ≤ 1048576) (hm : m.length ≤ 1048576) : Calls Try.prog 47 #[v, u] w (OwnRes (mask l m) w) := by
  obtain ⟨ua, uc, hue⟩ := hu.len
  subst hue
  have hcl := Lib.hid (clone_any l v w hr hl)
  have huw := Lib.hid (fun (W : World) (hW : Below w.heap.size w W) => hu.below hW)
  clear hr hu
  go_enter Try.func47, Try.ntmps47
  go_wp2_with fail
  refine hcl.out.mono ?_
  rintro e w1 ⟨x, rfl, _, hx, hb1⟩
  obtain ⟨g, cap, rfl, hg, ho⟩ := hx hne
  clear hx hcl
  replace hb1 := Lib.hid hb1
  go_wp2_with fail
  have hlm := mask_len l m
  by_cases hm0 : m = []
  · subst hm0
    have hfin := Lib.hid (mask_nil l)
    go_loopw [11] (fun i wr => ∃ k : Nat, k ≤ l.length ∧ i = .int .i64 k ∧ OwnB wr g cap l ∧ Below w.heap.size w wr) (fun i _ => l.length - (intOf i).toNat)
    case atStart => exact ⟨0, by omega, rfl, ho, hb1.out⟩
    case round =>
      clear ho
      obtain ⟨k, hk, rfl, ho, hB⟩ := hrel
      replace ho := Lib.hid ho
      replace hB := Lib.hid hB
      by_cases hlt : k < l.length
      · have hI1 : (k : Int) < (l.length : Int) := by omega
        go_wp2_with fail
        go_roundw
        case rel => exact ⟨k + 1, by omega, by go_num, ho.out, hB.out⟩
        case measure => simp [intOf]; omega
      · have hk' : k = l.length := by omega
        subst hk'
        go_wp2_with fail
        go_ret
        exact ⟨g, cap, by rw [hlm]; rfl, hg, by rw [hfin.out]; exact ho.out, hB.out⟩
  · have hm1 : 0 < m.length := List.length_pos_iff.2 hm0
    have hmI : (0 : Int) < (m.length : Int) := by omega
    have h0 : OwnB w1 g cap (maskTo l m 0) := by rw [maskTo_zero]; exact ho
    clear ho
    replace h0 := Lib.hid h0
    go_loopw [11] (fun i wr => ∃ k : Nat, k ≤ l.length ∧ i = .int .i64 k ∧ OwnB wr g cap (maskTo l m k) ∧ Below w.heap.size w wr) (fun i _ => l.length - (intOf i).toNat)
    case atStart => exact ⟨0, by omega, rfl, h0.out, hb1.out⟩
    case round =>
      clear h0
      obtain ⟨k, hk, rfl, ho, hB⟩ := hrel
      by_cases hlt : k < l.length
      · have hl2 := maskTo_len l m k hk
        obtain ⟨bb, o, cc, hv, hcc, hbb, hcell⟩ := (huw.out wr hB).at hm0
        cases hv
        have hkm : k % m.length < m.length := Nat.mod_lt _ hm1
        have c1 := hcell (k % m.length) hkm
        have c0 := ho.cell k (by omega)
        rw [maskTo_get l m k hlt] at c0
        have hset := ho.set k (l[k] ||| m.getD (k % m.length) 0)
        rw [maskTo_set l m k hlt hm0] at hset
        rw [List.getD_eq_getElem?_getD, List.getElem?_eq_getElem hkm, Option.getD_some] at hset
        have hf := ho.frozen k
        have hB2 := hB.setCell (p := ⟨g, k, none⟩) hg (byteV (l[k] ||| m[k % m.length]))
        have hrem := irem k m.length hm1
        obtain ⟨x, hx⟩ : ∃ x, l[k] = x := ⟨_, rfl⟩
        obtain ⟨y, hy⟩ : ∃ y, m[k % m.length] = y := ⟨_, rfl⟩
        rw [hx, hy] at hset hB2
        rw [hx] at c0
        rw [hy] at c1
        clear hx hy hcell
        unfold byteV at c0 c1 hset hB2
        rw [← or_u8] at hset hB2
        have hI0 : (0 : Int) ≤ (k : Int) := by omega
        have hI1 : (k : Int) < (l.length : Int) := by omega
        have hI2 : ((k % m.length : Nat) : Int) < (m.length : Int) := by omega
        have hI3 : (0 : Int) ≤ ((k % m.length : Nat) : Int) := by omega
        replace hset := Lib.hid hset
        replace hB2 := Lib.hid hB2
        clear ho hB hl2
        go_wp2_with fail
        go_region
        go_wp2_with fail
        exact ⟨⟨k + 1, by omega, by go_num, hset.out.drew, Below.drew hB2.out⟩, by simp [intOf]; omega⟩
      · have hk' : k = l.length := by omega
        subst hk'
        rw [maskTo_all] at ho
        replace ho := Lib.hid ho
        replace hB := Lib.hid hB
        go_wp2_with fail
        go_ret
        exact ⟨g, cap, by rw [hlm]; rfl, hg, ho.out, hB.out⟩
end Go.Proofs.Ytlgjlhgdpiipbaa
