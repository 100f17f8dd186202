/- The reference's words of a line (slipwayref27.words). -/
import Derived.Test.YtpoongljokbgcaaDoorBa
import Derived.Test.YtpoongljokbgcaaDoorAj
namespace Go.Proofs.YtpoongljokbgcaaDoor
open Go.RowKit
/-- What stands at the head of the loop: the words so far, the word that is under way. -/
def WInv (s : List UInt8) (i f : Nat) (out : List (List UInt8)) : Prop :=
  out.length ≤ i ∧ ((i ≤ s.length ∧ f ≤ i ∧ (32 : UInt8) ∉ (s.take i).drop f ∧ Tr.spl 32 s = out ++ Tr.spl 32 ((s.take i).drop f ++ s.drop i)) ∨ (i = s.length + 1 ∧ Tr.spl 32 s = out))
theorem WInv.zero (s : List UInt8) : WInv s 0 0 [] := ⟨Nat.le_refl _, .inl ⟨Nat.zero_le _, Nat.le_refl _, by simp, by simp⟩⟩
theorem WInv.le {s : List UInt8} {i f : Nat} {out : List (List UInt8)} (h : WInv s i f out) (hi : i ≤ s.length) : f ≤ i := by
  rcases h.2 with h | h
  · exact h.2.1
  · omega
theorem WInv.other {s : List UInt8} {i f : Nat} {out : List (List UInt8)} (h : WInv s i f out) (hi : i < s.length) (hc : s[i] ≠ 32) : WInv s (i + 1) f out := by
  rcases h.2 with ⟨h1, h2, h3, h4⟩ | h
  · have ht : (s.take (i + 1)).drop f = (s.take i).drop f ++ [s[i]] := by
      rw [List.take_succ_eq_append_getElem hi, List.drop_append_of_le_length (by simp; omega)]
    refine ⟨by have := h.1; omega, .inl ⟨by omega, by omega, ?_, ?_⟩⟩
    · rw [ht]; simp only [List.mem_append, List.mem_cons, List.not_mem_nil, or_false, not_or]
      exact ⟨h3, fun e => hc e.symm⟩
    · rw [ht, h4, List.drop_eq_getElem_cons hi]; simp
  · omega
theorem WInv.blank {s : List UInt8} {i f : Nat} {out : List (List UInt8)} (h : WInv s i f out) (hi : i < s.length) (hc : s[i] = 32) : WInv s (i + 1) (i + 1) (out ++ [(s.take i).drop f]) := by
  rcases h.2 with ⟨h1, h2, h3, h4⟩ | h
  · have ht : (s.take (i + 1)).drop (i + 1) = [] := by rw [List.drop_eq_nil_iff]; simp; omega
    refine ⟨by have := h.1; simp; omega, .inl ⟨by omega, by omega, by rw [ht]; simp, ?_⟩⟩
    rw [ht, h4, List.drop_eq_getElem_cons hi, hc, Tr.spl_cons 32 _ _ h3]; simp
  · omega
theorem WInv.last {s : List UInt8} {f : Nat} {out : List (List UInt8)} (h : WInv s s.length f out) : WInv s (s.length + 1) (s.length + 1) (out ++ [(s.take s.length).drop f]) := by
  rcases h.2 with ⟨h1, h2, h3, h4⟩ | h
  · refine ⟨by have := h.1; simp; omega, .inr ⟨rfl, ?_⟩⟩
    rw [h4, List.drop_length, List.append_nil, Tr.spl_one 32 _ h3]
  · omega
theorem WInv.end {s : List UInt8} {f : Nat} {out : List (List UInt8)} (h : WInv s (s.length + 1) f out) : Tr.spl 32 s = out := by
  rcases h.2 with h | h
  · omega
  · exact h.2
set_option maxRecDepth 100000 in
set_option maxHeartbeats 4000000 in
theorem wordsr_any (s : List UInt8) (w : World) (hs : s.length ≤ 4000000) :
    Calls Tryd.prog 65 #[.string (S s)] w (OwnTexts (Tr.spl 32 s) w) := by
  obtain ⟨i0, hi0, hz0, hz1, hz2⟩ := info_parts infoStr
  go_enter Tryd.func65, Tryd.ntmps65
  go_wp2_with fail
  go_loopw [3, 4, 5] (fun o f k wr => ∃ (i j : Nat) (out : List (List UInt8)), i ≤ s.length + 1 ∧ k = .int .i64 i ∧ f = .int .i64 j ∧ WInv s i j out ∧ wr.ownsRow w.heap.size 9 1 o out.length (out.map strV) ∧ Below w.heap.size w wr)
    (fun _ _ k _ => s.length + 1 - (intOf k).toNat)
  case atStart => exact ⟨0, 0, [], by omega, rfl, rfl, WInv.zero s, World.ownsRow_nil _ _ _ _, Below.refl _ _⟩
  case round =>
    obtain ⟨i, j, out, hi, rfl, rfl, hinv, hown, hW⟩ := hrel
    have hsz := hW.size
    have hol := hinv.1
    by_cases hle : i ≤ s.length
    · have hji := hinv.le hle
      by_cases hlt : i < s.length
      · have hil : ((i : Int) == (s.length : Int)) = false := beq_eq_false_iff_ne.2 (by omega)
        by_cases h32 : s[i] = 32
        · have hnx := Lib.hid (hinv.blank hlt h32)
          replace hinv := Lib.hid hinv
          have hb : ((s[i].toNat : Int) == 32) = true := by rw [h32]; rfl
          replace h32 := Lib.hid h32
          go_wp2_with (at_builtin; refine wpList_append_lies _ rfl _ _ 58 rfl w.heap.size 9 i0 (.string ⟨#[]⟩) 1 16 Tryd.underlying58 hi0 hz0 hz1 hz2 rfl (by decide) _ out.length (out.map strV) rfl (hown.alloc _) ⟨wr.heap.size, 0, none⟩ 1 1 [.string (S ((s.take i).drop j))] rfl rfl (World.news_of_block (heap_alloc_new wr (.cells #[.string (S ((s.take i).drop j))] 9))) (by simp [Value.oneCell']) (by omega) (by unfold maxLen; omega) (by omega) (by rw [World.size_alloc]; omega) _ rfl ?_; intro vg vc w1 hown1 hgrow _ _)
          go_roundw
          case rel => exact ⟨i + 1, i + 1, out ++ [(s.take i).drop j], by omega, by go_num, by go_num, hnx.out, by rw [List.length_append, List.map_append]; exact hown1, (hW.alloc hsz _).grown hgrow (by rw [World.size_alloc]; omega) (fun k hk => (hown.lt k hk).1)⟩
          case measure => simp [intOf]; omega
        · have hnx := Lib.hid (hinv.other hlt h32)
          replace hinv := Lib.hid hinv
          have hb : ((s[i].toNat : Int) == 32) = false := beq_eq_false_iff_ne.2 (fun e => h32 (UInt8.toNat_inj.1 (by show s[i].toNat = 32; omega)))
          replace h32 := Lib.hid h32
          go_wp2_with fail
          go_roundw
          case rel => exact ⟨i + 1, j, out, by omega, by go_num, rfl, hnx.out, hown, hW⟩
          case measure => simp [intOf]; omega
      · obtain rfl : i = s.length := by omega
        have hnx := hinv.last
        replace hinv := Lib.hid hinv
        rw [List.take_length] at hnx
        replace hnx := Lib.hid hnx
        go_wp2_with (at_builtin; refine wpList_append_lies _ rfl _ _ 58 rfl w.heap.size 9 i0 (.string ⟨#[]⟩) 1 16 Tryd.underlying58 hi0 hz0 hz1 hz2 rfl (by decide) _ out.length (out.map strV) rfl (hown.alloc _) ⟨wr.heap.size, 0, none⟩ 1 1 [.string (S (s.drop j))] rfl rfl (World.news_of_block (heap_alloc_new wr (.cells #[.string (S (s.drop j))] 9))) (by simp [Value.oneCell']) (by omega) (by unfold maxLen; omega) (by omega) (by rw [World.size_alloc]; omega) _ rfl ?_; intro vg vc w1 hown1 hgrow _ _)
        go_roundw
        case rel => exact ⟨s.length + 1, s.length + 1, out ++ [s.drop j], by omega, by go_num, by go_num, hnx.out, by rw [List.length_append, List.map_append]; exact hown1, (hW.alloc hsz _).grown hgrow (by rw [World.size_alloc]; omega) (fun k hk => (hown.lt k hk).1)⟩
        case measure => simp [intOf]
    · obtain rfl : i = s.length + 1 := by omega
      have hfin := Lib.hid hinv.end
      go_wp2_with fail
      go_ret
      exact ⟨_, rfl, by rw [hfin.out]; exact hown, hW⟩
end Go.Proofs.YtpoongljokbgcaaDoor
