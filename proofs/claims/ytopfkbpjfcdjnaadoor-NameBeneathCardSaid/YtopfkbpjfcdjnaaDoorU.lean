/- NameJoins returns true. -/
import Derived.Test.YtopfkbpjfcdjnaaDoorT
import Derived.Test.YtopfkbpjfcdjnaaDoorP
namespace Go.Proofs.YtopfkbpjfcdjnaaDoor
open Go.RowKit
/-- A slice of texts, read. -/
def SliceRes (xs : List (List UInt8)) (w : World) (e : Ending) (w' : World) : Prop := ∃ v, e = .returned v ∧ RdS w v xs ∧ w' = w
set_option maxRecDepth 100000 in
set_option maxHeartbeats 1000000 in
theorem short_any (xs : List (List UInt8)) (v : Value) (w : World) (hr : RdS w v xs) : Calls Tryd.prog 10 #[v] w (SliceRes (xs.take 600) w) := by
  have hr' := hr
  obtain ⟨a, cap, hv, hc, h3⟩ := hr'
  subst hv
  replace hr := Lib.hid hr
  clear h3
  have c1 : (0 : Int) ≤ min (xs.length : Int) 600 := by omega
  have c2 : min (xs.length : Int) 600 ≤ cap := by omega
  have hout := Lib.hid (fun n (hn : n = min xs.length 600) => hr.out.take (min xs.length 600) n (by omega) hn)
  have he := Lib.hid (show xs.take (min xs.length 600) = xs.take 600 by
    rcases Nat.le_total xs.length 600 with h | h
    · rw [Nat.min_eq_left h, List.take_length, List.take_of_length_le h]
    · rw [Nat.min_eq_right h])
  go_enter Tryd.func10, Tryd.ntmps10
  go_wp2
  go_ret
  refine ⟨_, rfl, ?_, rfl⟩
  rw [← he.out]
  exact hout.out _ (by omega)
set_option maxRecDepth 100000 in
set_option maxHeartbeats 1000000 in
theorem joins_any (xs : List (List UInt8)) (v : Value) (w : World) (hG : Gl w) (hE : ErrT w) (hr : RdS w v xs) (hl : ∀ x ∈ xs, x.length ≤ 140737488355328) :
    Calls Tryd.prog 3 #[v] w fun e w' => e = .returned (.bool true) ∧ Below w.heap.size w w' := by
  have hlive := Lib.hid (live_any w hG hE)
  have hs := Lib.hid (fun W (hr : RdS W v xs) => short_any xs v W hr)
  have hl6 : ∀ x ∈ xs.take 600, x.length ≤ 140737488355328 := fun x hx => hl x (List.mem_of_mem_take hx)
  have hn6 : (xs.take 600).length ≤ 140737488355328 := by rw [List.length_take]; omega
  obtain ⟨ys, hys⟩ : ∃ ys, xs.take 600 = ys := ⟨_, rfl⟩
  rw [hys] at hs hl6 hn6
  have hj := Lib.hid (fun v W hr => join_any ys v W hr hl6 hn6)
  have hjr := Lib.hid (fun v W hr => joinr_any ys v W hr hl6 hn6)
  obtain ⟨⟨t, n⟩, hjn⟩ : ∃ r, Nm.join ys = r := ⟨_, rfl⟩
  rw [hjn] at hj hjr
  replace hjn := Lib.hid hjn
  clear hl hl6 hn6
  replace hys := Lib.hid hys
  replace hr := Lib.hid hr
  go_enter Tryd.func3, Tryd.ntmps3
  go_wp2_with fail
  refine hlive.out.mono ?_
  rintro e w1 ⟨rfl, hb1⟩
  go_wp2_with fail
  refine (hs.out _ (hr.out.below hb1)).mono ?_
  rintro e w2 ⟨u, rfl, hu, hw⟩
  obtain rfl := hw.symm
  have hu' := Lib.hid hu
  clear hu
  go_wp2_with fail
  refine (hj.out _ _ hu'.out).mono ?_
  rintro e w3 ⟨rfl, hb3⟩
  go_wp2_with fail
  refine (hjr.out _ _ (hu'.out.below hb3)).mono ?_
  rintro e w4 ⟨rfl, hb4⟩
  go_wp2_with fail
  go_ret
  exact ⟨rfl, (hb1.trans (hb3.mono hb1.size)).trans (hb4.mono (Nat.le_trans hb1.size hb3.size))⟩
end Go.Proofs.YtopfkbpjfcdjnaaDoor
