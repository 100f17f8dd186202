import Derived.Test.YtpoongljokbgcaaDoorV
namespace Go.Proofs.YtpoongljokbgcaaDoor
open Go.RowKit
theorem unquotes (l : List UInt8) (hl : 3 * l.length ≤ 140737488355328) :
    ∃ t m, (∀ w, Calls Tryd.prog 10 #[.string (S l)] w (PairText t m w)) ∧ ∀ w, Calls Tryd.prog 11 #[.string (S l)] w (PairText t m w) :=
  ⟨_, _, fun w => unquote_pair l w hl, fun w => (unquoter_any l w hl).mono fun e w' ⟨he, hb⟩ => ⟨by rw [he]; cases Tr.unq l <;> rfl, hb⟩⟩
set_option maxHeartbeats 4000000 in
theorem texts_any (l : List UInt8) (w : World) (hG : Gl w) :
    Calls Tryd.prog 3 #[.string (S l)] w fun e w' => e = .returned (.bool true) ∧ Below w.heap.size w w' := by
  by_cases hlt : 5000 < l.length
  · replace hG := Lib.hid (live_any w hG)
    have ht : (((S l).size : Int) > 5000) := by rw [S_size]; omega
    go_enter Tryd.func3, Tryd.ntmps3
    go_wp2_with fail
    refine hG.out.mono ?_
    rintro e w1 ⟨rfl, hb1⟩
    go_wp2_with fail
    go_ret
    exact ⟨rfl, hb1⟩
  · have hl : 3 * l.length ≤ 140737488355328 := by omega
    replace hG := Lib.hid (live_any w hG)
    have ht : ¬ (((S l).size : Int) > 5000) := by rw [S_size]; omega
    obtain ⟨t, m, h10, h11⟩ := unquotes l hl
    replace hl := Lib.hid hl
    replace h10 := Lib.hid h10
    replace h11 := Lib.hid h11
    go_enter Tryd.func3, Tryd.ntmps3
    go_wp2_with fail
    refine hG.out.mono ?_
    rintro e w1 ⟨rfl, hb1⟩
    go_wp2_with fail
    refine (h10.out _).mono ?_
    rintro e w2 ⟨rfl, hb2⟩
    go_wp2_with fail
    refine (h11.out _).mono ?_
    rintro e w3 ⟨rfl, hb3⟩
    go_wp2_with fail
    refine (quote_any l _ hl.out).mono ?_
    rintro e w4 ⟨rfl, hb4⟩
    go_wp2_with fail
    refine (quoter_any l _ hl.out).mono ?_
    rintro e w5 ⟨rfl, hb5⟩
    go_wp2_with fail
    go_ret
    have a1 := hb1
    have a2 := a1.trans (hb2.mono a1.size)
    have a3 := a2.trans (hb3.mono a2.size)
    have a4 := a3.trans (hb4.mono a3.size)
    exact ⟨rfl, a4.trans (hb5.mono a4.size)⟩
end Go.Proofs.YtpoongljokbgcaaDoor
