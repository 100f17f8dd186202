/- There and back: the plain laws, NameBack returns true. -/
import Derived.Test.YtopfkbpjfcdjnaaDoorX
import Derived.Test.YtopfkbpjfcdjnaaDoorU
namespace Go.Proofs.YtopfkbpjfcdjnaaDoor
open Go.RowKit
namespace Nm
theorem check_no (x : List UInt8) (h : check x = 0) : x ≠ [] ∧ (47 : UInt8) ∉ x ∧ x.length ≤ 48 := by
  unfold check at h
  split at h
  · cases h
  rename_i h0
  split at h
  · cases h
  rename_i h1
  split at h
  · cases h
  rename_i h2
  refine ⟨fun e => h0 (.inl e), fun hm => h1 ?_, by omega⟩
  rw [List.any_eq_true]
  exact ⟨47, hm, rfl⟩
theorem spl_path (x : List UInt8) (r : List (List UInt8)) (hx : (47 : UInt8) ∉ x) (h : ∀ y ∈ r, (47 : UInt8) ∉ y) : Tr.spl 47 (x ++ path r) = x :: r := by
  induction r generalizing x with
  | nil => show Tr.spl 47 (x ++ []) = _; rw [List.append_nil]; exact Tr.spl_one 47 x hx
  | cons y r ih =>
    have : path (y :: r) = 47 :: (y ++ path r) := by simp [path]
    rw [this, Tr.spl_cons 47 x _ hx, ih y (h y (by simp)) (fun z hz => h z (by simp [hz]))]
/-- What is joined is split to the names. -/
theorem split_join {ys : List (List UInt8)} {s : List UInt8} (h : join ys = (s, 0)) : split s = (ys, 0) := by
  unfold join at h
  split at h
  · rename_i hF
    split at h
    · rename_i h0
      simp at h
      subst h; subst h0
      decide
    · rename_i h0
      split at h
      · simp at h
      · rename_i h5
        simp at h
        have hall := (firstBad_ok ys).1 hF
        cases ys with
        | nil => exact absurd rfl h0
        | cons x r =>
          have hx := check_no x (hall x (by simp))
          have hp : path (x :: r) = 47 :: (x ++ path r) := by simp [path]
          have hs : s = 47 :: (x ++ path r) := by rw [← h, hp]
          have hl : s.length ≤ 512 := by rw [← h, path_len]; omega
          have hne : x ++ path r ≠ [] := by
            intro e; exact hx.1 (List.append_eq_nil_iff.1 e).1
          have hsp := spl_path x r hx.2.1 (fun y hy => (check_no y (hall y (by simp [hy]))).2.1)
          unfold split
          rw [if_neg (by omega), hs]
          simp only [if_true, if_neg hne, hsp, hF]
  · rename_i hF
    simp only [Prod.mk.injEq] at h
    exact absurd h.2 hF
/-- What is split is joined to the path. -/
theorem join_split {p : List UInt8} {xs : List (List UInt8)} (h : split p = (xs, 0)) : join xs = (p, 0) := by
  have hj := join_take h xs.length
  rw [List.take_length] at hj
  obtain ⟨_, _, hc⟩ := split_ok h
  rw [hj]
  unfold upto
  rcases hc with ⟨h1, h2⟩ | ⟨h1, h2⟩
  · rw [if_pos h1, h2]
  · rw [if_neg h1, h2]
end Nm
/-- The second half: what is split is joined to the path. -/
theorem splitJoin_names (p : List UInt8) (xs : List (List UInt8)) (h : Nm.split p = (xs, 0)) (v : Value) (W : World) (hr : RdS W v xs) : Calls Tryd.prog 11 #[v] W (JoinRes (p, 0) W) := by
  have hm := Nm.split_fst_mem p
  have hl := Nm.split_fst_len p
  rw [h] at hm hl
  have := join_any xs v W hr (fun x hx => by have := hm x hx; omega) (by simp only at hl; omega)
  rw [Nm.join_split h] at this
  exact this
set_option maxRecDepth 100000 in
set_option maxHeartbeats 4000000 in
theorem back_any (xs : List (List UInt8)) (p : List UInt8) (v : Value) (w : World) (hG : Gl w) (hE : ErrT w) (hr : RdS w v xs) (hl : ∀ x ∈ xs, x.length ≤ 140737488355328) :
    Calls Tryd.prog 6 #[v, .string (S p)] w fun e w' => e = .returned (.bool true) ∧ Below w.heap.size w w' := by
  have hlive := Lib.hid (live_any w hG hE)
  have hs := Lib.hid (fun W (hr : RdS W v xs) => short_any xs v W hr)
  have hl6 : ∀ x ∈ xs.take 600, x.length ≤ 140737488355328 := fun x hx => hl x (List.mem_of_mem_take hx)
  have hn6 : (xs.take 600).length ≤ 140737488355328 := by rw [List.length_take]; omega
  obtain ⟨ys, hys⟩ : ∃ ys, xs.take 600 = ys := ⟨_, rfl⟩
  rw [hys] at hs hl6 hn6
  have hj := Lib.hid (fun v W hr => join_any ys v W hr hl6 hn6)
  obtain ⟨⟨t, n⟩, hjn⟩ : ∃ r, Nm.join ys = r := ⟨_, rfl⟩
  obtain ⟨⟨zs, m⟩, hzs⟩ : ∃ r, Nm.split p = r := ⟨_, rfl⟩
  rw [hjn] at hj
  have hsp := Lib.hid (fun W hG => split_any p W hG)
  rw [hzs] at hsp
  have heq := Lib.hid (fun v u W hv hu => equalS_true ys v u W hv hu (by omega))
  have hst := Lib.hid (fun W hG => split_any t W hG)
  clear hl hl6 hn6
  replace hys := Lib.hid hys
  replace hr := Lib.hid hr
  replace hG := Lib.hid hG
  have hm1 : m ≠ 0 → (m == 0) = false := fun h => by simpa using h
  have hback := Lib.hid (fun (v : Value) (W : World) (hm : m = 0) (hr : RdS W v zs) => splitJoin_names p zs (by rw [hzs, hm]) v W hr)
  replace hzs := Lib.hid hzs
  by_cases hn0 : n = 0
  · subst hn0
    have hsb := Nm.split_join hjn
    rw [hsb] at hst
    replace hsb := Lib.hid hsb
    replace hjn := Lib.hid hjn
    by_cases hm0 : m = 0
    · subst hm0
      clear hm1
      go_enter Tryd.func6, Tryd.ntmps6
      go_wp2_with fail
      refine hlive.out.mono ?_
      rintro e w1 ⟨rfl, hb1⟩
      replace hb1 := Lib.hid hb1
      go_wp2_with fail
      refine (hs.out _ (hr.out.below hb1.out)).mono ?_
      rintro e w2 ⟨u, rfl, hu, hw⟩
      obtain rfl := hw.symm
      replace hu := Lib.hid hu
      go_wp2_with fail
      refine (hj.out _ _ hu.out).mono ?_
      rintro e w3 ⟨rfl, hb3⟩
      have hB3 := Lib.hid (hb1.out.trans (hb3.mono hb1.out.size))
      have hu3 := Lib.hid (hu.out.below hb3)
      clear hb3
      go_wp2_with fail
      refine (hst.out _ (hG.out.below hB3.out)).mono ?_
      rintro e w4 ⟨u4, rfl, hr4, hb4⟩
      replace hr4 : RdS w4 u4 ys := hr4
      have hB4 := Lib.hid (hB3.out.trans (hb4.mono hB3.out.size))
      have hu4 := Lib.hid (hu3.out.below hb4)
      replace hr4 := Lib.hid hr4
      clear hb4
      go_wp2_with fail
      refine (heq.out _ _ _ hr4.out hu4.out).mono ?_
      rintro e w5 ⟨rfl, hb5⟩
      have hB5 := Lib.hid (hB4.out.trans (hb5.mono hB4.out.size))
      clear hb5
      go_wp2_with fail
      refine (hsp.out _ (hG.out.below hB5.out)).mono ?_
      rintro e w6 ⟨u6, rfl, hr6, hb6⟩
      replace hr6 : RdS w6 u6 zs := hr6
      replace hr6 := Lib.hid hr6
      have hB6 := Lib.hid (hB5.out.trans (hb6.mono hB5.out.size))
      clear hb6
      go_wp2_with fail
      refine (hback.out _ _ trivial hr6.out).mono ?_
      rintro e w7 ⟨rfl, hb7⟩
      have hB7 := Lib.hid (hB6.out.trans (hb7.mono hB6.out.size))
      clear hb7
      go_wp2_with fail
      go_ret
      exact ⟨rfl, hB7.out⟩
    · have hm2 := hm1 hm0
      clear hm1
      go_enter Tryd.func6, Tryd.ntmps6
      go_wp2_with fail
      refine hlive.out.mono ?_
      rintro e w1 ⟨rfl, hb1⟩
      replace hb1 := Lib.hid hb1
      go_wp2_with fail
      refine (hs.out _ (hr.out.below hb1.out)).mono ?_
      rintro e w2 ⟨u, rfl, hu, hw⟩
      obtain rfl := hw.symm
      replace hu := Lib.hid hu
      go_wp2_with fail
      refine (hj.out _ _ hu.out).mono ?_
      rintro e w3 ⟨rfl, hb3⟩
      have hB3 := Lib.hid (hb1.out.trans (hb3.mono hb1.out.size))
      have hu3 := Lib.hid (hu.out.below hb3)
      clear hb3
      go_wp2_with fail
      refine (hst.out _ (hG.out.below hB3.out)).mono ?_
      rintro e w4 ⟨u4, rfl, hr4, hb4⟩
      replace hr4 : RdS w4 u4 ys := hr4
      have hB4 := Lib.hid (hB3.out.trans (hb4.mono hB3.out.size))
      have hu4 := Lib.hid (hu3.out.below hb4)
      replace hr4 := Lib.hid hr4
      clear hb4
      go_wp2_with fail
      refine (heq.out _ _ _ hr4.out hu4.out).mono ?_
      rintro e w5 ⟨rfl, hb5⟩
      have hB5 := Lib.hid (hB4.out.trans (hb5.mono hB4.out.size))
      clear hb5
      go_wp2_with fail
      refine (hsp.out _ (hG.out.below hB5.out)).mono ?_
      rintro e w6 ⟨u6, rfl, hr6, hb6⟩
      have hB6 := Lib.hid (hB5.out.trans (hb6.mono hB5.out.size))
      clear hb6 hr6
      go_wp2_with fail
      go_ret
      exact ⟨rfl, hB6.out⟩
  · have hn1 : (n == 0) = false := by simpa using hn0
    replace hjn := Lib.hid hjn
    by_cases hm0 : m = 0
    · subst hm0
      clear hm1
      go_enter Tryd.func6, Tryd.ntmps6
      go_wp2_with fail
      refine hlive.out.mono ?_
      rintro e w1 ⟨rfl, hb1⟩
      replace hb1 := Lib.hid hb1
      go_wp2_with fail
      refine (hs.out _ (hr.out.below hb1.out)).mono ?_
      rintro e w2 ⟨u, rfl, hu, hw⟩
      obtain rfl := hw.symm
      replace hu := Lib.hid hu
      go_wp2_with fail
      refine (hj.out _ _ hu.out).mono ?_
      rintro e w3 ⟨rfl, hb3⟩
      have hB5 := Lib.hid (hb1.out.trans (hb3.mono hb1.out.size))
      clear hb3
      go_wp2_with fail
      refine (hsp.out _ (hG.out.below hB5.out)).mono ?_
      rintro e w6 ⟨u6, rfl, hr6, hb6⟩
      replace hr6 : RdS w6 u6 zs := hr6
      replace hr6 := Lib.hid hr6
      have hB6 := Lib.hid (hB5.out.trans (hb6.mono hB5.out.size))
      clear hb6
      go_wp2_with fail
      refine (hback.out _ _ trivial hr6.out).mono ?_
      rintro e w7 ⟨rfl, hb7⟩
      have hB7 := Lib.hid (hB6.out.trans (hb7.mono hB6.out.size))
      clear hb7
      go_wp2_with fail
      go_ret
      exact ⟨rfl, hB7.out⟩
    · have hm2 := hm1 hm0
      clear hm1
      go_enter Tryd.func6, Tryd.ntmps6
      go_wp2_with fail
      refine hlive.out.mono ?_
      rintro e w1 ⟨rfl, hb1⟩
      replace hb1 := Lib.hid hb1
      go_wp2_with fail
      refine (hs.out _ (hr.out.below hb1.out)).mono ?_
      rintro e w2 ⟨u, rfl, hu, hw⟩
      obtain rfl := hw.symm
      replace hu := Lib.hid hu
      go_wp2_with fail
      refine (hj.out _ _ hu.out).mono ?_
      rintro e w3 ⟨rfl, hb3⟩
      have hB5 := Lib.hid (hb1.out.trans (hb3.mono hb1.out.size))
      clear hb3
      go_wp2_with fail
      refine (hsp.out _ (hG.out.below hB5.out)).mono ?_
      rintro e w6 ⟨u6, rfl, hr6, hb6⟩
      have hB6 := Lib.hid (hB5.out.trans (hb6.mono hB5.out.size))
      clear hb6 hr6
      go_wp2_with fail
      go_ret
      exact ⟨rfl, hB6.out⟩
end Go.Proofs.YtopfkbpjfcdjnaaDoor
