/- The contract of trace.Answer. -/
import Derived.Test.YtpoongljokbgcaaDoorAa
namespace Go.Proofs.YtpoongljokbgcaaDoor
open Go.RowKit
set_option maxRecDepth 100000 in
set_option maxHeartbeats 4000000 in
theorem answer_any (k : Int) (r : Res) (dv lv : Value) (w : World) (hk : in64 k) (hr : r.ok) (hf : r.fits) (hd : RdB w dv r.data) (hl : RdE w lv r.list) :
    Calls Tryd.prog 14 #[.int .i64 k, .agg #[.int .i64 r.err, dv, .int .i64 r.kind, .int .i64 r.links, .int .i64 r.size, lv]] w (TextBelow (Tr.answer k r) w) := by
  obtain ⟨er, l, kd, ln, sz, xs⟩ := r
  obtain ⟨he, hkd, hln, hsz, hes⟩ := hr
  obtain ⟨hf1, hf2, hf3, hf4⟩ := hf
  dsimp only at *
  have hB0 : Below w.heap.size w (w.alloc (.cells #[.int .i64 er, dv, .int .i64 kd, .int .i64 ln, .int .i64 sz, lv] 33)) := (Below.refl _ _).alloc (Nat.le_refl _) _
  replace hB0 := Lib.hid hB0
  replace he := Lib.hid he
  replace hkd := Lib.hid hkd
  replace hln := Lib.hid hln
  replace hsz := Lib.hid hsz
  replace hes := Lib.hid hes
  replace hf1 := Lib.hid hf1
  replace hf2 := Lib.hid hf2
  replace hf3 := Lib.hid hf3
  replace hf4 := Lib.hid hf4
  replace hd := Lib.hid hd
  replace hl := Lib.hid hl
  by_cases h0 : er ≠ 0
  · have hfin := Lib.hid (show Tr.answer k ⟨er, l, kd, ln, sz, xs⟩ = [101, 114, 114, 111, 114, 32] ++ Lib.itoa er by unfold Tr.answer; rw [if_pos h0])
    have h0' : (er != 0) = true := by simpa using h0
    have hle := Lib.itoa_length_le er he.out.1 he.out.2
    clear h0
    go_enter Tryd.func14, Tryd.ntmps14
    go_wp2_with fail
    refine (num_any er _ he.out.1 he.out.2).mono ?_
    rintro e w1 ⟨rfl, hb1⟩
    have hB1 := hB0.out.trans (hb1.mono hB0.out.size)
    go_wp2_with fail
    go_ret
    exact ⟨by rw [hfin.out]; rfl, hB1⟩
  have h0' : (er != 0) = false := by simpa using h0
  have ha : Tr.answer k ⟨er, l, kd, ln, sz, xs⟩ = if k = 9 then [100, 97, 116, 97, 32] ++ Tr.hexes l
      else if k = 10 then [115, 116, 97, 116, 32] ++ Lib.itoa kd ++ [32] ++ Lib.itoa ln ++ [32] ++ Lib.itoa sz
      else if k = 11 then Lib.join ([108, 105, 115, 116] :: xs.map Tr.ent) [32] else [111, 107] := by unfold Tr.answer; rw [if_neg h0]
  clear h0
  replace ha := Lib.hid ha
  by_cases k9 : k = 9
  · have hfin := Lib.hid (show Tr.answer k ⟨er, l, kd, ln, sz, xs⟩ = [100, 97, 116, 97, 32] ++ Tr.hexes l by rw [ha.out, if_pos k9])
    subst k9
    have hlen : (Tr.hexes l).length = 2 * l.length + 1 := by unfold Tr.hexes; rw [List.length_cons, hexflat_len]
    have hle : (Tr.hexes l).length ≤ 140737488355328 := by rw [hlen]; exact hf1.out
    clear hlen
    go_enter Tryd.func14, Tryd.ntmps14
    go_wp2_with fail
    refine (hexes_any dv l _ (hd.out.below ((Below.refl _ _).alloc (Nat.le_refl _) _)) hf1.out).mono ?_
    rintro e w1 ⟨rfl, hb1⟩
    have hB1 := hB0.out.trans (hb1.mono hB0.out.size)
    go_wp2_with fail
    go_ret
    exact ⟨by rw [hfin.out]; rfl, hB1⟩
  have k9' : (k == 9) = false := beq_eq_false_iff_ne.2 k9
  by_cases k10 : k = 10
  · have hfin := Lib.hid (show Tr.answer k ⟨er, l, kd, ln, sz, xs⟩ = [115, 116, 97, 116, 32] ++ Lib.itoa kd ++ [32] ++ Lib.itoa ln ++ [32] ++ Lib.itoa sz by rw [ha.out, if_neg k9, if_pos k10])
    subst k10
    clear k9
    have hl1 := Lib.itoa_length_le kd hkd.out.1 hkd.out.2
    have hl2 := Lib.itoa_length_le ln hln.out.1 hln.out.2
    have hl3 := Lib.itoa_length_le sz hsz.out.1 hsz.out.2
    have q1 : (⟨#[115, 116, 97, 116, 32]⟩ : ByteArray).size = 5 := rfl
    have q2 : (⟨#[32]⟩ : ByteArray).size = 1 := rfl
    have kr1 := fun W : World => run_string_add_sum (P := Tryd.prog) W ⟨#[115, 116, 97, 116, 32]⟩ (S (Lib.itoa kd)) (by rw [S_size, q1]; omega)
    have kr2 := fun W : World => run_string_add_sum (P := Tryd.prog) W (⟨#[115, 116, 97, 116, 32]⟩ ++ S (Lib.itoa kd)) ⟨#[32]⟩ (by rw [ByteArray.size_append, S_size, q1, q2]; omega)
    have kr3 := fun W : World => run_string_add_sum (P := Tryd.prog) W (⟨#[115, 116, 97, 116, 32]⟩ ++ S (Lib.itoa kd) ++ ⟨#[32]⟩) (S (Lib.itoa ln)) (by rw [ByteArray.size_append, ByteArray.size_append, S_size, S_size, q1, q2]; omega)
    have kr4 := fun W : World => run_string_add_sum (P := Tryd.prog) W (⟨#[115, 116, 97, 116, 32]⟩ ++ S (Lib.itoa kd) ++ ⟨#[32]⟩ ++ S (Lib.itoa ln)) ⟨#[32]⟩ (by rw [ByteArray.size_append, ByteArray.size_append, ByteArray.size_append, S_size, S_size, q1, q2]; omega)
    have kr5 := fun W : World => run_string_add_sum (P := Tryd.prog) W (⟨#[115, 116, 97, 116, 32]⟩ ++ S (Lib.itoa kd) ++ ⟨#[32]⟩ ++ S (Lib.itoa ln) ++ ⟨#[32]⟩) (S (Lib.itoa sz)) (by rw [ByteArray.size_append, ByteArray.size_append, ByteArray.size_append, ByteArray.size_append, S_size, S_size, S_size, q1, q2]; omega)
    clear q1 q2
    go_enter Tryd.func14, Tryd.ntmps14
    go_wp2_with fail
    have hw0 : Below w.heap.size w (w.alloc (.cells #[.int .i64 er, dv, .int .i64 kd, .int .i64 ln, .int .i64 sz, lv] 33)) := hB0.out
    have c2 : (w.alloc (.cells #[.int .i64 er, dv, .int .i64 kd, .int .i64 ln, .int .i64 sz, lv] 33)).cell? ⟨w.heap.size, 2, none⟩ = some (.int .i64 kd) := by simp
    have c3 : (w.alloc (.cells #[.int .i64 er, dv, .int .i64 kd, .int .i64 ln, .int .i64 sz, lv] 33)).cell? ⟨w.heap.size, 3, none⟩ = some (.int .i64 ln) := by simp
    have c4 : (w.alloc (.cells #[.int .i64 er, dv, .int .i64 kd, .int .i64 ln, .int .i64 sz, lv] 33)).cell? ⟨w.heap.size, 4, none⟩ = some (.int .i64 sz) := by simp
    have hz : w.heap.size + 1 ≤ (w.alloc (.cells #[.int .i64 er, dv, .int .i64 kd, .int .i64 ln, .int .i64 sz, lv] 33)).heap.size := by simp
    generalize w.alloc (.cells #[.int .i64 er, dv, .int .i64 kd, .int .i64 ln, .int .i64 sz, lv] 33) = wx at c2 c3 c4 hz hw0 ⊢
    go_region_held3 (fun w' => w'.cell? ⟨w.heap.size, 2, none⟩ = some (.int .i64 kd) ∧ w'.cell? ⟨w.heap.size, 3, none⟩ = some (.int .i64 ln) ∧ w'.cell? ⟨w.heap.size, 4, none⟩ = some (.int .i64 sz) ∧ w.heap.size + 1 ≤ w'.heap.size ∧ Below w.heap.size w w')
      (first | (go_split_ands; refine ⟨?_, ?_, ?_, ?_, ?_⟩ <;> first | assumption | (rw [hb1.cell (by simp; omega)]; assumption) | (have := hb1.size; omega) | exact Below.drew (by assumption) | exact Below.trans (by assumption) (hb1.mono (by omega))) | go_keep)
      (first | (go_at_call 43; refine (num_any _ _ ?_ ?_).mono ?_; (first | exact hkd.out.1 | exact hln.out.1 | exact hsz.out.1); (first | exact hkd.out.2 | exact hln.out.2 | exact hsz.out.2); rintro e w2 ⟨rfl, hb1⟩))
    all_goals
      obtain ⟨_, _, _, hz, hBB⟩ := ‹_ ∧ _ ∧ _ ∧ _ ∧ _›
      go_wp2_with fail
      go_ret
      exact ⟨by rw [hfin.out, ← stat_eq]; rfl, hBB⟩
  have k10' : (k == 10) = false := beq_eq_false_iff_ne.2 k10
  by_cases k11 : k = 11
  · have hfin := Lib.hid (show Tr.answer k ⟨er, l, kd, ln, sz, xs⟩ = Lib.join ([108, 105, 115, 116] :: xs.map Tr.ent) [32] by rw [ha.out, if_neg k9, if_neg k10, if_pos k11])
    subst k11
    clear k9 k10 ha
    exact list_any er l kd ln sz xs dv lv w (fun e he' => ⟨hf2.out e he', hes.out e he'⟩) hf3.out hf4.out hl.out (by simpa using h0') hfin.out
  have k11' : (k == 11) = false := beq_eq_false_iff_ne.2 k11
  have hfin := Lib.hid (show Tr.answer k ⟨er, l, kd, ln, sz, xs⟩ = [111, 107] by rw [ha.out, if_neg k9, if_neg k10, if_neg k11])
  clear k9 k10 k11
  go_enter Tryd.func14, Tryd.ntmps14
  go_wp2_with fail
  go_ret
  exact ⟨by rw [hfin.out]; rfl, hB0.out⟩
end Go.Proofs.YtpoongljokbgcaaDoor
