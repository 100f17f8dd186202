/- NameWraps where there is no error. -/
import Derived.Test.YtopfkbpjfcdjnaaDoorAb
namespace Go.Proofs.YtopfkbpjfcdjnaaDoor
open Go.RowKit
set_option maxRecDepth 100000 in
set_option maxHeartbeats 4000000 in
theorem wraps_none (m : Int) (ls : List Lnk) (v : Value) (w0 : World) (hG : Gl w0) (hE : ErrT w0) (hr : RdL w0 v ls) :
    Calls Tryd.prog 5 #[.int .i64 0, .int .i64 m, v] w0 fun e w' => e = .returned (.bool true) ∧ Below w0.heap.size w0 w' := by
  have hlive := Lib.hid (live_any w0 hG hE)
  have hr' := hr
  obtain ⟨a, cap, hv, hc, h3⟩ := hr'
  subst hv
  replace hr := Lib.hid hr
  clear h3 hE
  have c1 : (0 : Int) ≤ min (ls.length : Int) 40 := by omega
  have c2 : min (ls.length : Int) 40 ≤ cap := by omega
  go_enter Tryd.func5, Tryd.ntmps5
  go_wp2_with fail
  refine hlive.out.mono ?_
  rintro e w ⟨rfl, hb0⟩
  obtain ⟨a', cap', hv', _, h3⟩ := hr.out.below hb0
  cases hv'
  replace h3 := Lib.hid h3
  go_wp2_with fail
  obtain ⟨mm, hmm⟩ : ∃ mm : Nat, min ls.length 40 = mm := ⟨_, rfl⟩
  have e1 : max (min (ls.length : Int) 40) 0 = (mm : Int) := by omega
  have e2 : (min (ls.length : Int) 40).toNat = mm := by omega
  have hml : mm ≤ ls.length := by omega
  have hmc : mm ≤ cap := by omega
  have hm40 : mm ≤ 40 := by omega
  rw [e1, e2]
  clear e1 e2 c1 c2
  replace hmm := Lib.hid hmm
  replace hb0 := Lib.hid hb0
  go_loopw [7, 8, 9, 35] (fun E dp _ i wr => ∃ k : Nat, k ≤ mm ∧ i = .int .i64 k ∧ E = .nilIface ∧ dp = .pointer none ∧ Below w.heap.size w wr) (fun _ _ _ i _ => mm - (intOf i).toNat)
  case atStart => exact ⟨0, Nat.zero_le _, rfl, rfl, rfl, Below.refl _ _⟩
  case round =>
    obtain ⟨k, hk, rfl, rfl, rfl, hB⟩ := hrel
    have hsz := hB.size
    by_cases hlt : k < mm
    · obtain ⟨b, o, he, d0, d1, d2, d3⟩ := h3.out k _ (List.getElem?_eq_getElem (by omega))
      subst he
      have hkl : k < ls.length := by omega
      obtain ⟨x, hx⟩ : ∃ x, ls[k] = x := ⟨_, rfl⟩
      rw [hx] at d0 d1 d2 d3
      replace hx := Lib.hid hx
      replace d0 := cell_below d0 hB
      replace d1 := cell_below d1 hB
      replace d2 := cell_below d2 hB
      replace d3 := cell_below d3 hB
      obtain ⟨xd, xs, xo, xp⟩ := x
      dsimp only at d0 d1 d2 d3
      have hB1 := Lib.hid (hB.alloc hsz (.cells #[.bool xd, .int .i64 xs, .string (S xo), .string (S xp)] 43))
      replace hB := Lib.hid hB
      cases xd with
      | true =>
        go_wp2_with fail
        go_roundw
        case rel => exact ⟨k + 1, by omega, by go_num, rfl, rfl, hB1.out⟩
        case measure => simp [intOf]; omega
      | false =>
        have hw := Lib.hid (fun W => wrap_nil (S xo) (S xp) W)
        go_wp2_with (go_at_call 16; refine (hw.out _).mono ?_; rintro e w2 ⟨rfl, hw2⟩; obtain rfl := hw2.symm)
        go_roundw
        case rel => exact ⟨k + 1, by omega, by go_num, rfl, rfl, hB1.out⟩
        case measure => simp [intOf]; omega
    · have hk' : k = mm := by omega
      subst hk'
      have hs := Lib.hid (sector_nil wr)
      replace hB := Lib.hid hB
      clear hlt hml hmc hm40 hk
      go_wp2_with fail
      refine hs.out.mono ?_
      intro e w2 hk2
      obtain ⟨rfl, hb2⟩ := kept_below hk2
      clear hk2
      have hB2 := Lib.hid (hB.out.trans (hb2.mono hB.out.size))
      have ho := Lib.hid (op_nil w2)
      clear hb2
      go_wp2_with fail
      refine ho.out.mono ?_
      intro e w3 hk3
      obtain ⟨rfl, hb3⟩ := kept_below hk3
      clear hk3
      have hB3 := Lib.hid (hB2.out.trans (hb3.mono hB2.out.size))
      have hcd := Lib.hid (code_nil w3)
      clear hb3
      go_wp2_with fail
      refine hcd.out.mono ?_
      intro e w4 hk4
      obtain ⟨rfl, hb4⟩ := kept1_below hk4
      clear hk4
      have hB4 := Lib.hid (hB3.out.trans (hb4.mono hB3.out.size))
      clear hb4
      have hf := Lib.hid (fatal_nil w4)
      go_wp2_with fail
      refine hf.out.mono ?_
      rintro e w5 ⟨rfl, hw⟩
      obtain rfl := hw.symm
      go_wp2_with fail
      go_ret
      exact ⟨rfl, hb0.out.trans (hB4.out.mono hb0.out.size)⟩
theorem wraps_any (n m : Int) (ls : List Lnk) (v : Value) (w0 : World) (hG : Gl w0) (hE : ErrT w0) (hr : RdL w0 v ls) :
    Calls Tryd.prog 5 #[.int .i64 n, .int .i64 m, v] w0 fun e w' => e = .returned (.bool true) ∧ Below w0.heap.size w0 w' := by
  by_cases hn : n = 0
  · subst hn; exact wraps_none m ls v w0 hG hE hr
  · exact wraps_some n m ls v w0 hG hE hr hn
end Go.Proofs.YtopfkbpjfcdjnaaDoor
