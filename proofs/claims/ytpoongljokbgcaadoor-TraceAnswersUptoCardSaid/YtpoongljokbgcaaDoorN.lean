import Derived.Test.YtpoongljokbgcaaDoorM
import Derived.Test.YtpoongljokbgcaaDoorO
namespace Go.Proofs.YtpoongljokbgcaaDoor
open Go.RowKit
namespace Tr
def wds : List (List UInt8) := [[99, 114, 101, 97, 116, 101], [109, 107, 100, 105, 114], [108, 105, 110, 107], [117, 110, 108, 105, 110, 107], [114, 109, 100, 105, 114], [114, 101, 110, 97, 109, 101], [119, 114, 105, 116, 101], [116, 114, 117, 110, 99, 97, 116, 101], [114, 101, 97, 100], [115, 116, 97, 116], [114, 101, 97, 100, 100, 105, 114], [102, 115, 121, 110, 99], [115, 121, 110, 99]]
def word (k : Int) : List UInt8 := if 1 ≤ k ∧ k ≤ 13 then wds.getD (k - 1).toNat [] else []
end Tr
/-- What a call of the library's search asks of the world: its one variable. -/
def Gl (w : World) : Prop := 0 < w.heap.size ∧ ∃ m : Int, w.cell? ⟨0, 0, none⟩ = some (.int .i64 m)
theorem Gl.below {w w' : World} (h : Gl w) (hb : Below w.heap.size w w') : Gl w' := by
  obtain ⟨h0, m, hm⟩ := h
  exact ⟨Nat.lt_of_lt_of_le h0 hb.size, m, by rw [hb.cell (p := ⟨0, 0, none⟩) h0]; exact hm⟩
theorem Gl.drewN {w : World} (h : Gl w) (n : Nat) : Gl (w.drewN n) := h
/-- A slice of texts, all of it new. -/
def NewTexts (xs : List (List UInt8)) (w : World) (e : Ending) (w' : World) : Prop :=
  e = .returned (.slice (some ⟨w.heap.size, 0, none⟩) xs.length xs.length) ∧ w' = w.alloc (.cells (xs.map strV).toArray 9)
theorem split_S (c : UInt8) (s : List UInt8) (w : World) (hG : Gl w) (hs : s.length < 4294967281) :
    Calls Tryd.prog 46 #[.string (S s), .string ⟨#[c]⟩] w (NewTexts (Tr.spl c s) w) := by
  obtain ⟨_, m, hm⟩ := hG
  refine (Tryd.strings_Split (S s) (S [c]) m w (by simpa using hs) hm (by simp)).mono ?_
  rintro e w' ⟨he, hw⟩
  refine ⟨?_, ?_⟩
  · rw [he, countB_spl]
  · rw [hw, splitB_vals]; rfl
theorem newTexts_own (w : World) (xs : List (List UInt8)) (hl : xs.length ≤ maxLen) : (w.alloc (.cells (xs.map strV).toArray 9)).ownsRow w.heap.size 9 1 (.slice (some ⟨w.heap.size, 0, none⟩) xs.length xs.length) xs.length (xs.map strV) :=
  ⟨by simp, .inr ⟨w.heap.size, xs.length, (xs.map strV).toArray, rfl, Nat.le_refl _, heap_alloc_new w _, Nat.le_refl _, hl, by simp, by simp [List.take_of_length_le]⟩⟩
theorem words_split : Tr.spl 32 [99, 114, 101, 97, 116, 101, 32, 109, 107, 100, 105, 114, 32, 108, 105, 110, 107, 32, 117, 110, 108, 105, 110, 107, 32, 114, 109, 100, 105, 114, 32, 114, 101, 110, 97, 109, 101, 32, 119, 114, 105, 116, 101, 32, 116, 114, 117, 110, 99, 97, 116, 101, 32, 114, 101, 97, 100, 32, 115, 116, 97, 116, 32, 114, 101, 97, 100, 100, 105, 114, 32, 102, 115, 121, 110, 99, 32, 115, 121, 110, 99] = Tr.wds := by decide
theorem words_call (w : World) (hG : Gl w) :
    Calls Tryd.prog 46 #[.string ⟨([99, 114, 101, 97, 116, 101, 32, 109, 107, 100, 105, 114, 32, 108, 105, 110, 107, 32, 117, 110, 108, 105, 110, 107, 32, 114, 109, 100, 105, 114, 32, 114, 101, 110, 97, 109, 101, 32, 119, 114].append [105, 116, 101, 32, 116, 114, 117, 110, 99, 97, 116, 101, 32, 114, 101, 97, 100, 32, 115, 116, 97, 116, 32, 114, 101, 97, 100, 100, 105, 114, 32, 102, 115, 121, 110, 99, 32, 115, 121, 110, 99]).toArray⟩, .string ⟨#[32]⟩] w (NewTexts Tr.wds w) := by
  have h := split_S 32 [99, 114, 101, 97, 116, 101, 32, 109, 107, 100, 105, 114, 32, 108, 105, 110, 107, 32, 117, 110, 108, 105, 110, 107, 32, 114, 109, 100, 105, 114, 32, 114, 101, 110, 97, 109, 101, 32, 119, 114, 105, 116, 101, 32, 116, 114, 117, 110, 99, 97, 116, 101, 32, 114, 101, 97, 100, 32, 115, 116, 97, 116, 32, 114, 101, 97, 100, 100, 105, 114, 32, 102, 115, 121, 110, 99, 32, 115, 121, 110, 99] w hG (by decide)
  rw [words_split] at h
  exact h
theorem cell_texts (w : World) (xs : List (List UInt8)) (j : Nat) (hj : j < xs.length) : (w.alloc (.cells (xs.map strV).toArray 9)).cell? ⟨w.heap.size, j, none⟩ = some (.string (S xs[j])) := by
  rw [World.cell?_alloc_at _ _ _ _ (by simp)]
  simp [hj, strV]
set_option maxRecDepth 100000 in
set_option maxHeartbeats 1000000 in
theorem word_any (k : Int) (w : World) (hG : Gl w) (h0 : -9223372036854775808 ≤ k) (h1 : k ≤ 9223372036854775807) :
    Calls Tryd.prog 52 #[.int .i64 k] w (TextBelow (Tr.word k) w) := by
  go_enter Tryd.func52, Tryd.ntmps52
  go_wp2_with fail
  refine (words_call w hG).mono ?_
  rintro e w' ⟨rfl, rfl⟩
  obtain ⟨W, hW⟩ : ∃ W, w.alloc (.cells (Tr.wds.map strV).toArray 9) = W := ⟨_, rfl⟩
  have hb : Below w.heap.size w W := by rw [← hW]; exact (Below.refl _ _).alloc (Nat.le_refl _) _
  have hl : Tr.wds.length = 13 := rfl
  by_cases hk : 1 ≤ k ∧ k ≤ 13
  · obtain ⟨hk1, hk2⟩ := hk
    have hc := cell_texts w Tr.wds (k.toNat - 1) (by omega)
    rw [hW] at hc ⊢
    have hfin := Lib.hid (show Tr.word k = Tr.wds[k.toNat - 1] by
      unfold Tr.word; rw [if_pos ⟨hk1, hk2⟩, show (k - 1).toNat = k.toNat - 1 by omega, List.getD_eq_getElem?_getD, List.getElem?_eq_getElem (by omega)]; rfl)
    rw [hl]
    replace hW := Lib.hid hW
    generalize hx : Tr.wds[k.toNat - 1] = x at *
    go_wp2_with fail
    go_ret
    exact ⟨by rw [hfin.out]; rfl, hb⟩
  · rw [hW]
    have hfin := Lib.hid (show Tr.word k = [] by unfold Tr.word; rw [if_neg hk])
    rw [hl]
    replace hW := Lib.hid hW
    by_cases hk1 : k < 1
    · go_wp2_with fail
      go_ret
      exact ⟨by rw [hfin.out]; rfl, hb⟩
    · have hk2 : 13 < k := by omega
      go_wp2_with fail
      go_ret
      exact ⟨by rw [hfin.out]; rfl, hb⟩
end Go.Proofs.YtpoongljokbgcaaDoor
