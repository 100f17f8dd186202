import Derived.Test.YtpoongljokbgcaaDoorB
import Derived.LoopTactic
namespace Go.Proofs.YtpoongljokbgcaaDoor
open Go.RowKit
theorem take_flat (l : List UInt8) (k : Nat) (h : k < l.length) : (l.take (k + 1)).flatMap Tr.quo1 = (l.take k).flatMap Tr.quo1 ++ Tr.quo1 (l.getD k 0) := by
  rw [List.take_succ_eq_append_getElem h, List.flatMap_append]; simp [h]
theorem quo1_len (c : UInt8) : (Tr.quo1 c).length ≤ 3 := by unfold Tr.quo1 Tr.hexB; split <;> simp
theorem flat_len (l : List UInt8) : (l.flatMap Tr.quo1).length ≤ 3 * l.length := by
  induction l with
  | nil => simp
  | cons c l ih => rw [List.flatMap_cons, List.length_append, List.length_cons]; have := quo1_len c; omega
theorem bare_yes (c : UInt8) (h : Tr.bare c = true) : ¬ (c.toNat : Int) < 33 ∧ ¬ 126 < (c.toNat : Int) ∧ ((c.toNat : Int) == 37) = false ∧ ((c.toNat : Int) == 58) = false := by
  unfold Tr.bare at h
  simp only [Bool.not_eq_true', Bool.or_eq_false_iff, decide_eq_false_iff_not, beq_eq_false_iff_ne] at h
  obtain ⟨⟨⟨h1, h2⟩, h3⟩, h4⟩ := h
  refine ⟨by omega, by omega, ?_, ?_⟩ <;> rw [beq_eq_false_iff_ne] <;> intro e
  · exact h3 (UInt8.toNat_inj.1 (by have : c.toNat = 37 := by omega
                                    simpa using this))
  · exact h4 (UInt8.toNat_inj.1 (by have : c.toNat = 58 := by omega
                                    simpa using this))
theorem bare_no (c : UInt8) (h : ¬ Tr.bare c = true) : (c.toNat : Int) < 33 ∨ (¬ (c.toNat : Int) < 33 ∧ (126 < (c.toNat : Int) ∨ (¬ 126 < (c.toNat : Int) ∧ (((c.toNat : Int) == 37) = true ∨ (((c.toNat : Int) == 37) = false ∧ ((c.toNat : Int) == 58) = true))))) := by
  unfold Tr.bare at h
  simp only [Bool.not_eq_true', Bool.or_eq_false_iff, decide_eq_false_iff_not, beq_eq_false_iff_ne] at h
  by_cases h1 : (c.toNat : Int) < 33
  · exact .inl h1
  refine .inr ⟨h1, ?_⟩
  by_cases h2 : 126 < (c.toNat : Int)
  · exact .inl h2
  refine .inr ⟨h2, ?_⟩
  by_cases h3 : c = 37
  · exact .inl (by subst h3; rfl)
  · have h4 : c = 58 := by
      by_cases h4 : c = 58
      · exact h4
      · exact (h ⟨⟨⟨by omega, by omega⟩, h3⟩, h4⟩).elim
    subst h4
    exact .inr ⟨rfl, rfl⟩
theorem isBuilder_drewN {T e : TypeId} {B b : Nat} {bs : List Value} {w : World} (h : Lib.IsBuilder T e B b bs w) (n : Nat) : Lib.IsBuilder T e B b bs (w.drewN n) := by
  rcases h with ⟨h1, v, h2, h3, h4⟩ | ⟨h1, v, h2, h3, h4⟩
  · exact .inl ⟨h1, v, h2, h3, h4⟩
  · exact .inr ⟨h1, v, h2, h3, h4⟩
def TextBelow (l : List UInt8) (w : World) (e : Ending) (w' : World) : Prop := e = .returned (.string (S l)) ∧ Below w.heap.size w w'
set_option maxHeartbeats 1000000 in
theorem quote_any (l : List UInt8) (w : World) (hl : 3 * l.length ≤ 140737488355328) :
    Calls Tryd.prog 12 #[.string (S l)] w (TextBelow (Tr.quo l) w) := by
  by_cases hn : l = []
  · subst hn
    go_enter Tryd.func12, Tryd.ntmps12
    go_wp2_with fail
    go_ret
    exact ⟨rfl, Below.refl _ _⟩
  have hne : (l == []) = false := by simpa using hn
  have H := Lib.hid (show Tr.quo l = l.flatMap Tr.quo1 by unfold Tr.quo; rw [if_neg hn])
  go_enter Tryd.func12, Tryd.ntmps12
  go_wp2_with fail
  go_loopw [10] (fun k wr => ∃ i : Nat, i ≤ l.length ∧ k = .int .i64 i ∧ Lib.IsBuilder 69 5 w.heap.size w.heap.size (Lib.byteCells ((l.take i).flatMap Tr.quo1)) wr ∧ Below w.heap.size w wr)
    (fun k _ => l.length - (intOf k).toNat)
  case atStart => exact ⟨0, Nat.zero_le _, rfl, Lib.fresh_isBuilder 69 5 w, (Below.refl _ _).alloc (Nat.le_refl _) _⟩
  case round =>
    obtain ⟨i, hi, rfl, hB, hW⟩ := hrel
    by_cases hlt : i < l.length
    · have hlen := flat_len (l.take i)
      rw [List.length_take] at hlen
      have hts := Lib.hid (take_flat l i hlt)
      obtain ⟨c, hc⟩ : ∃ c, l[i] = c := ⟨_, rfl⟩
      rw [show l.getD i 0 = c from by rw [← hc]; simp [hlt]] at hts
      have hsz := hW.size
      by_cases hb : Tr.bare c = true
      · have hq := Lib.hid (show Tr.quo1 c = [c] by unfold Tr.quo1; rw [if_pos hb])
        obtain ⟨b1, b2, b3, b4⟩ := bare_yes c hb
        clear hb
        go_wp2_with (go_at_call 41; refine (writeByte_any _ _ _ _ _ hB (by rw [Lib.byteCells_length]; omega) hsz).mono ?_; rintro e w1 ⟨rfl, hB1, hb1⟩)
        go_roundw
        case rel => exact ⟨i + 1, by omega, by go_num, .inr (by rw [hts.out, hq.out]; simpa [Lib.byteCells] using hB1), hW.trans hb1⟩
        case measure => simp [intOf]; omega
      · have hq := Lib.hid (show Tr.quo1 c = 37 :: Tr.hexB c by unfold Tr.quo1; rw [if_neg hb])
        have hb4 := bare_no c hb
        clear hb
        rcases hb4 with b1 | ⟨b1, b2 | ⟨b2, b3 | ⟨b3, b4⟩⟩⟩
        all_goals
          go_wp2_with fail
          refine (hex_any c _).mono ?_
          rintro e w1 ⟨rfl, nd, rfl⟩
          go_wp2_with fail
          refine (writeString_any w.heap.size w.heap.size _ _ _ (isBuilder_drewN hB nd) ?_ ?_).mono ?_
          · rw [Lib.byteCells_length, ByteArray.size_append, S_size]
            have : (⟨#[37]⟩ : ByteArray).size = 1 := rfl
            have : (Tr.hexB c).length = 2 := rfl
            omega
          · exact hsz
          rintro e w1 ⟨rfl, hB1, hb1⟩
          go_wp2_with fail
          go_roundw
          case rel => exact ⟨i + 1, by omega, by go_num, .inr (by rw [hts.out, hq.out]; simpa [Lib.byteCells, Lib.strCells, S] using hB1), hW.trans ⟨hb1.os, hb1.tape, hb1.output, hb1.size, hb1.block⟩⟩
          case measure => simp [intOf]; omega
    · have hi' : i = l.length := by omega
      subst hi'
      go_wp2_with (go_at_call 42; refine (Tryd.Builder_String_any _ _ _ _ hB hW.size).mono ?_; rintro e w1 ⟨rfl, hb1⟩)
      go_ret
      exact ⟨by rw [H.out]; rfl, hW.trans hb1⟩
end Go.Proofs.YtpoongljokbgcaaDoor
