/- The reference's Under; the two are alike. -/
import Derived.Test.YtopfkbpjfcdjnaaDoorAj
import Derived.Test.YtopfkbpjfcdjnaaDoorAk
import Derived.Test.YtopfkbpjfcdjnaaDoorY
namespace Go.Proofs.YtopfkbpjfcdjnaaDoor
open Go.RowKit
namespace Nm
theorem upto_of {d : List UInt8} {ds : List (List UInt8)} (h : split d = (ds, 0)) : upto ds = d := by
  obtain ⟨_, _, hc⟩ := split_ok h
  unfold upto
  rcases hc with ⟨h1, h2⟩ | ⟨h1, h2⟩
  · rw [if_pos h1, h2]
  · rw [if_neg h1, h2]
theorem mem_waysOf (xs : List (List UInt8)) (d : List UInt8) : d ∈ waysOf xs ↔ ∃ k, k ≤ xs.length ∧ upto (xs.take k) = d := by
  unfold waysOf
  simp only [List.mem_map, List.mem_range]
  constructor
  · rintro ⟨k, hk, h⟩; exact ⟨k, by omega, h⟩
  · rintro ⟨k, hk, h⟩; exact ⟨k, by omega, h⟩
theorem under_eq (p d : List UInt8) : under p d = decide ((split p).2 = 0 ∧ (split d).2 = 0 ∧ (split d).1 <+: (split p).1) := by
  obtain ⟨⟨ps, m1⟩, hp⟩ : ∃ r, split p = r := ⟨_, rfl⟩
  obtain ⟨⟨ds, m2⟩, hd⟩ : ∃ r, split d = r := ⟨_, rfl⟩
  unfold under ways
  rw [hp, hd]
  simp only
  by_cases h2 : m2 = 0
  · subst h2
    by_cases h1 : m1 = 0
    · subst h1
      simp only [true_and, if_true]
      congr 1
      rw [mem_waysOf]
      apply propext
      constructor
      · rintro ⟨k, hk, h⟩
        have := split_join (join_take hp k)
        rw [h, hd] at this
        have e : ds = ps.take k := by simpa using this
        rw [e]; exact List.take_prefix _ _
      · intro h
        refine ⟨ds.length, h.length_le, ?_⟩
        rw [← List.prefix_iff_eq_take.1 h]
        exact upto_of hd
    · simp [h1]
  · simp [h2]
end Nm
set_option maxRecDepth 100000 in
set_option maxHeartbeats 4000000 in
theorem underr_any (p d : List UInt8) (w : World) : Calls Tryd.prog 27 #[.string (S p), .string (S d)] w fun e w' => e = .returned (.bool (Nm.under p d)) ∧ Below w.heap.size w w' := by
  have hsp := Lib.hid (splitr_any p w)
  have hsd := Lib.hid (fun W => splitr_any d W)
  have hpl := Nm.split_fst_len p
  have hdl := Nm.split_fst_len d
  have hun := Nm.under_eq p d
  obtain ⟨⟨ps, m1⟩, hp⟩ : ∃ r, Nm.split p = r := ⟨_, rfl⟩
  obtain ⟨⟨ds, m2⟩, hd⟩ : ∃ r, Nm.split d = r := ⟨_, rfl⟩
  rw [hp] at hsp hpl hun
  rw [hd] at hsd hdl hun
  simp only at hpl hdl hun
  clear hp hd
  replace hun := Lib.hid hun
  have hend : ∀ b : Bool, Nm.under p d = b → ∀ w', Below w.heap.size w w' → (Ending.returned (.bool b) = Ending.returned (.bool (Nm.under p d)) ∧ Below w.heap.size w w') := fun b h w' hb => ⟨by rw [h], hb⟩
  replace hend := Lib.hid hend
  by_cases h1 : m1 = 0
  case neg =>
    have n1 : (m1 == 0) = false := by simpa using h1
    go_enter Tryd.func27, Tryd.ntmps27
    go_wp2_with fail
    refine hsp.out.mono ?_
    rintro e w1 ⟨v, rfl, hr1, hb1⟩
    go_wp2_with fail
    refine (hsd.out w1).mono ?_
    rintro e w2 ⟨u, rfl, hr2, hb2⟩
    go_wp2_with fail
    go_ret
    exact hend.out false (by rw [hun.out]; simp [h1]) _ (hb1.trans (hb2.mono hb1.size))
  subst h1
  by_cases h2 : m2 = 0
  case neg =>
    have n1 : (m2 == 0) = false := by simpa using h2
    go_enter Tryd.func27, Tryd.ntmps27
    go_wp2_with fail
    refine hsp.out.mono ?_
    rintro e w1 ⟨v, rfl, hr1, hb1⟩
    go_wp2_with fail
    refine (hsd.out w1).mono ?_
    rintro e w2 ⟨u, rfl, hr2, hb2⟩
    go_wp2_with fail
    go_ret
    exact hend.out false (by rw [hun.out]; simp [h2]) _ (hb1.trans (hb2.mono hb1.size))
  subst h2
  go_enter Tryd.func27, Tryd.ntmps27
  go_wp2_with fail
  refine hsp.out.mono ?_
  rintro e w1 ⟨v, rfl, hr1, hb1⟩
  replace hr1 : RdS w1 v ps := hr1
  obtain ⟨a1, c1, hv⟩ := hr1.len
  subst hv
  go_wp2_with fail
  refine (hsd.out w1).mono ?_
  rintro e w2 ⟨u, rfl, hr2, hb2⟩
  replace hr2 : RdS w2 u ds := hr2
  obtain ⟨a2, c2, hv⟩ := hr2.len
  subst hv
  replace hr1 := Lib.hid (hr1.below hb2)
  replace hr2 := Lib.hid hr2
  have hB2 := Lib.hid (hb1.trans (hb2.mono hb1.size))
  clear hb1 hb2
  by_cases hlen : ps.length < ds.length
  · have t1 : (ps.length : Int) < ds.length := by omega
    go_wp2_with fail
    go_ret
    exact hend.out false (by rw [hun.out]; simp; intro h; have := h.length_le; omega) _ hB2.out
  have t1 : ¬ (ps.length : Int) < ds.length := by omega
  go_wp2_with fail
  go_loopw [9] (fun i wr => ∃ k : Nat, k ≤ ds.length ∧ i = .int .i64 k ∧ Below w2.heap.size w2 wr ∧ ds.take k = ps.take k) (fun i _ => ds.length - (intOf i).toNat)
  case atStart => exact ⟨0, Nat.zero_le _, rfl, Below.refl _ _, by simp⟩
  case round =>
    obtain ⟨k, hk, rfl, hW, hT⟩ := hrel
    replace hT := Lib.hid hT
    by_cases hlt : k < ds.length
    · have hkp : k < ps.length := by omega
      obtain ⟨b1, o1, q1, hv1, _, _, g1⟩ := (hr1.out.below hW).at (by intro e; rw [e] at hkp; simp at hkp)
      obtain ⟨b2, o2, q2, hv2, _, _, g2⟩ := (hr2.out.below hW).at (by intro e; rw [e] at hlt; simp at hlt)
      cases hv1
      cases hv2
      have d1 := g1 k hkp
      have d2 := g2 k hlt
      clear g1 g2
      have hpx := Lib.hid (List.take_succ_eq_append_getElem hkp)
      have hdx := Lib.hid (List.take_succ_eq_append_getElem hlt)
      obtain ⟨x, hx⟩ : ∃ x, ps[k] = x := ⟨_, rfl⟩
      obtain ⟨y, hy⟩ : ∃ y, ds[k] = y := ⟨_, rfl⟩
      rw [hx] at d1 hpx
      rw [hy] at d2 hdx
      replace hx := Lib.hid hx
      replace hy := Lib.hid hy
      unfold strV at d1 d2
      have hI0 : (0 : Int) ≤ (k : Int) := by omega
      have hI1 : (k : Int) < (ps.length : Int) := by omega
      have hI2 : (k : Int) < (ds.length : Int) := by omega
      replace hW := Lib.hid hW
      by_cases hxy : x = y
      · have exy : (x == y) = true := by simpa using hxy
        go_wp2_with fail
        go_quiet (fail)
        subst hxy
        go_wp2_with fail
        go_roundw
        case rel => exact ⟨k + 1, by omega, by go_num, hW.out.trans ((below_drewN _ _).mono hW.out.size), by rw [hpx.out, hdx.out, hT.out]⟩
        case measure => simp [intOf]; omega
      · have exy : (x == y) = false := by simpa using hxy
        go_wp2_with fail
        go_quiet (fail)
        go_wp2_with fail
        go_ret
        refine hend.out false ?_ _ (hB2.out.trans ((hW.out.trans ((below_drewN _ _).mono hW.out.size)).mono hB2.out.size))
        rw [hun.out]
        simp only [true_and, decide_eq_false_iff_not]
        intro h
        have := List.prefix_iff_eq_take.1 h
        apply hxy
        rw [← hx.out, ← hy.out]
        exact (h.getElem hlt).symm
    · have hk' : k = ds.length := by omega
      subst hk'
      have hfin := Lib.hid (show ds <+: ps by rw [List.prefix_iff_eq_take, ← hT.out, List.take_length])
      go_wp2_with fail
      go_ret
      exact hend.out true (by rw [hun.out]; simp [hfin.out]) _ (hB2.out.trans (hW.mono hB2.out.size))
end Go.Proofs.YtopfkbpjfcdjnaaDoor
