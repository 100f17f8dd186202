import Derived.Test.YtpoongljokbgcaaDoorE
namespace Go.Proofs.YtpoongljokbgcaaDoor
open Go.RowKit
theorem get_idx (c : UInt8) (l : List UInt8) (h : l.idxOf c < l.length) : l[l.idxOf c] = c := by
  induction l with
  | nil => simp at h
  | cons b l ih =>
    by_cases hb : (b == c) = true
    · simp [eq_of_beq hb]
    · have hb' : (b == c) = false := by simpa using hb
      have h2 : l.idxOf c < l.length := by
        rw [List.idxOf_cons, hb', List.length_cons] at h
        simpa using h
      simp only [List.idxOf_cons, hb', cond_false, List.getElem_cons_succ]
      exact ih h2
theorem dg_nib (c : UInt8) (h : Tr.nib c < 16) : Tr.dg (Tr.nib c) = c := by
  unfold Tr.nib at *
  unfold Tr.dg
  rw [List.getD_eq_getElem?_getD, List.getElem?_eq_getElem (by exact h), Option.getD_some]
  exact get_idx c Tr.dgs h
theorem below_drewN (w : World) (n : Nat) : Below w.heap.size w (w.drewN n) := ⟨rfl, rfl, rfl, Nat.le_refl _, fun _ _ => rfl⟩
theorem below_thenN {B : Nat} {a w : World} (h : Below B a w) (n : Nat) : Below B a (w.drewN n) := ⟨h.os, h.tape, h.output, h.size, h.block⟩
set_option maxHeartbeats 1000000 in
theorem hexr_any (c : UInt8) (w : World) :
    Calls Tryd.prog 38 #[.int .u8 c.toNat] w fun e w' => e = .returned (.int .i64 (Lib.indexByte Tr.dgs c)) ∧ w' = w := by
  go_enter Tryd.func38, Tryd.ntmps38
  go_wp2_with fail
  go_loop [3] (fun k => ∃ i : Nat, i ≤ 16 ∧ k = .int .i64 i ∧ ∀ j, j < i → Tr.dg j ≠ c) (fun k => 16 - (intOf k).toNat)
  case atStart => exact ⟨0, by omega, rfl, fun j h => by omega⟩
  case round =>
    obtain ⟨i, hi, rfl, hno⟩ := hrel
    have hno := Lib.hid hno
    by_cases hlt : i < 16
    · have hix := fun w => run_index_S (P := Tryd.prog) w 9 Tr.dgs .i64 i Tryd.underlying9
      have hix' : ∀ w, (Instr.index 9 (.string ⟨#[48, 49, 50, 51, 52, 53, 54, 55, 56, 57, 97, 98, 99, 100, 101, 102]⟩) (.int .i64 i)).run Tryd.prog w = .ok (.int .u8 (Tr.dg i).toNat) w := by
        intro w; have := hix w; rw [if_pos ⟨by omega, by simp [Tr.dgs]; omega⟩] at this; exact this
      clear hix
      obtain ⟨d, hd⟩ : ∃ d, Tr.dg i = d := ⟨_, rfl⟩
      rw [hd] at hix'
      have hd := Lib.hid hd
      by_cases hc : d = c
      · have t := byte_eq d c hc
        have hc := Lib.hid hc
        go_wp2_with fail
        go_ret
        have hn : Tr.nib c = i := by rw [← hc.out, ← hd.out]; exact Tr.nib_dg i hlt
        exact ⟨by rw [index_lt c (by omega), hn]; rfl, rfl⟩
      · have t := byte_ne d c hc
        have hc := Lib.hid hc
        go_wp2_with fail
        go_round
        case rel => exact ⟨i + 1, by omega, by go_num, fun j hj => by
          rcases Nat.lt_or_ge j i with h | h
          · exact hno.out j h
          · obtain rfl : j = i := by omega
            rw [hd.out]; exact hc.out⟩
        case measure => simp [intOf]; omega
    · go_wp2_with fail
      go_ret
      exact ⟨by rw [index_ge c (fun h => hno.out _ (by omega) (dg_nib c h))]; rfl, rfl⟩
theorem drop_take1 (l : List UInt8) (i : Nat) (h : i < l.length) : List.drop i (List.take (i + 1) l) = [l[i]] := by
  rw [List.take_succ_eq_append_getElem h, List.drop_append_of_le_length (by simp; omega)]
  simp
set_option maxRecDepth 100000 in
set_option maxHeartbeats 1000000 in
theorem quoter_any (l : List UInt8) (w : World) (hl : 3 * l.length ≤ 140737488355328) :
    Calls Tryd.prog 13 #[.string (S l)] w (TextBelow (Tr.quo l) w) := by
  by_cases hn : l = []
  · subst hn
    go_enter Tryd.func13, Tryd.ntmps13
    go_wp2_with fail
    go_ret
    exact ⟨rfl, Below.refl _ _⟩
  have hne : (l == []) = false := by simpa using hn
  have H := Lib.hid (show Tr.quo l = l.flatMap Tr.quo1 by unfold Tr.quo; rw [if_neg hn])
  go_enter Tryd.func13, Tryd.ntmps13
  go_wp2_with fail
  go_loopw [3, 4] (fun o k wr => ∃ i : Nat, i ≤ l.length ∧ k = .int .i64 i ∧ o = .string (S ((l.take i).flatMap Tr.quo1)) ∧ Below w.heap.size w wr)
    (fun _ k _ => l.length - (intOf k).toNat)
  case atStart => exact ⟨0, Nat.zero_le _, rfl, rfl, Below.refl _ _⟩
  case round =>
    obtain ⟨i, hi, rfl, rfl, hW⟩ := hrel
    by_cases hlt : i < l.length
    · have hlen := flat_len (l.take i)
      rw [List.length_take] at hlen
      have hts := Lib.hid (take_flat l i hlt)
      have hdt := drop_take1 l i hlt
      obtain ⟨c, hc⟩ : ∃ c, l[i] = c := ⟨_, rfl⟩
      rw [show l.getD i 0 = c from by rw [← hc]; simp [hlt]] at hts
      rw [hc] at hdt
      obtain ⟨o, ho⟩ : ∃ o, (l.take i).flatMap Tr.quo1 = o := ⟨_, rfl⟩
      rw [ho] at hts hlen ⊢
      have ho := Lib.hid ho
      by_cases hb : Tr.bare c = true
      · have hq := Lib.hid (show Tr.quo1 c = [c] by unfold Tr.quo1; rw [if_pos hb])
        obtain ⟨b1, b2, b3, b4⟩ := bare_yes c hb
        clear hb
        have b3' : ((c.toNat : Int) != 37) = true := by rw [bne, b3]; rfl
        have b4' : ((c.toNat : Int) != 58) = true := by rw [bne, b4]; rfl
        go_wp2_with fail
        go_roundw
        case rel => exact ⟨i + 1, by omega, by go_num, by rw [hts.out, hq.out], hW⟩
        case measure => simp [intOf]; omega
      · have hq := Lib.hid (show Tr.quo1 c = 37 :: Tr.hexB c by unfold Tr.quo1; rw [if_neg hb])
        have hb4 := bare_no c hb
        clear hb
        have hcn : c.toNat < 256 := c.toNat_lt
        have e1 := u8_succ ((c.toNat : Int) / 16) (by omega) (by omega)
        have e2 := u8_and15 c.toNat hcn
        have e3 := u8_succ ((c.toNat % 16 : Nat) : Int) (by omega) (by omega)
        have d1 := dig_cut (c.toNat / 16) (by omega)
        have d2 := dig_cut (c.toNat % 16) (by omega)
        rcases hb4 with b1 | ⟨b1, b2 | ⟨b2, b3 | ⟨b3, b4⟩⟩⟩
        all_goals
          (try have b3' : ((c.toNat : Int) != 37) = false := by rw [bne, b3]; rfl)
          (try have b3' : ((c.toNat : Int) != 37) = true := by rw [bne, b3]; rfl)
          (try have b4' : ((c.toNat : Int) != 58) = false := by rw [bne, b4]; rfl)
          go_wp2_with fail
          go_quiet (fail)
          go_wp2_with fail
          go_roundw
          case rel => exact ⟨i + 1, by omega, by go_num, by rw [hts.out, hq.out]; simp [S, Tr.hexB, ByteArray.ext_iff], below_thenN hW _⟩
          case measure => simp [intOf]; omega
    · have hi' : i = l.length := by omega
      subst hi'
      go_wp2_with fail
      go_ret
      exact ⟨by rw [H.out]; simp, hW⟩
end Go.Proofs.YtpoongljokbgcaaDoor
