/- The reference's line of an answer (slipwayref27.Answer), printed by wip/tools/answer30.py. -/
import Derived.Test.YtpoongljokbgcaaDoorBa
import Derived.Test.YtpoongljokbgcaaDoorBb
import Derived.Test.YtpoongljokbgcaaDoorF
import Derived.Test.YtpoongljokbgcaaDoorU
import Derived.Test.YtpoongljokbgcaaDoorAb
import Derived.Deep.RegionHeld3
namespace Go.Proofs.YtpoongljokbgcaaDoor
open Go.RowKit
theorem textBelow_mk {l m : List UInt8} {w : World} {e : Ending} {w' : World} (h : l = m) (he : e = .returned (.string (S m))) (hb : Below w.heap.size w w') : TextBelow l w e w' := by subst h; exact ⟨he, hb⟩
theorem add_S (P : Program) (a b : List UInt8) (h : a.length + b.length ≤ 9223372036854775807) (W : World) : (Op.stringOp .add (S a) (S b)).run P W = .ok (.string (S (a ++ b))) W := by
  rw [run_string_add_sum (P := P) W (S a) (S b) (by rw [S_size, S_size]; exact h), S_append]
theorem join_flat (c : UInt8) (x : List UInt8) (xs : List (List UInt8)) : Lib.join (x :: xs) [c] = x ++ xs.flatMap (c :: ·) := by
  rw [Lib.join_cons]; unfold Lib.joinTail; simp [List.flatMap_def]
set_option maxRecDepth 100000 in
set_option maxHeartbeats 8000000 in
theorem answerr_err (k er : Int) (l : List UInt8) (kd ln sz : Int) (xs : List Ent) (da : Option Addr) (dc : Nat) (la : Option Addr) (lc : Nat) (w : World) (hP : Pw w) (hr : Res.ok ⟨er, l, kd, ln, sz, xs⟩)
    (hd : RdB w (.slice da l.length dc) l) (hl : RdE w (.slice la xs.length lc) xs) (hdl : 2 * l.length + 1 ≤ 140737488355328) (h0 : er ≠ 0) :
    Calls Tryd.prog 30 #[.int .i64 k, .agg #[.int .i64 er, .slice da l.length dc, .int .i64 kd, .int .i64 ln, .int .i64 sz, .slice la xs.length lc]] w (TextBelow (Tr.answer k ⟨er, l, kd, ln, sz, xs⟩) w) := by
  have hX := Lib.hid (Box.new w 33 #[.int .i64 er, .slice da l.length dc, .int .i64 kd, .int .i64 ln, .int .i64 sz, .slice la xs.length lc])
  have hB0 := Lib.hid (show Below w.heap.size w (w.alloc (.cells #[.int .i64 er, .slice da l.length dc, .int .i64 kd, .int .i64 ln, .int .i64 sz, .slice la xs.length lc] 33)) from (Below.refl _ _).alloc (Nat.le_refl _) _)
  replace hP := Lib.hid hP
  have hfin := Lib.hid (show Tr.answer k ⟨er, l, kd, ln, sz, xs⟩ = [101, 114, 114, 111, 114, 32] ++ Lib.itoa er by unfold Tr.answer; rw [if_pos h0])
  have e0 : (er != 0) = true := by simpa using h0
  have hz := Lib.itoa_length_le er hr.1.1 hr.1.2
  have hN := fun w hP => numr_any er w hP hr.1
  obtain ⟨x, hx⟩ : ∃ x, Lib.itoa er = x := ⟨_, rfl⟩
  rw [hx] at hfin hN hz
  replace hx := Lib.hid hx
  replace hN := Lib.hid hN
  clear h0 hr hd hl
  go_enter Tryd.func30, Tryd.ntmps30
  go_wp2_with fail
  refine (hN.out _ (hP.out.below hB0.out)).mono ?_
  rintro e w1 ⟨rfl, hb1⟩
  have hB1 := Lib.hid (hB0.out.trans (hb1.mono hB0.out.size))
  clear hb1
  go_wp2_with fail
  go_ret
  exact textBelow_mk hfin.out rfl hB1.out
set_option maxRecDepth 100000 in
set_option maxHeartbeats 8000000 in
theorem answerr_data (k er : Int) (l : List UInt8) (kd ln sz : Int) (xs : List Ent) (da : Option Addr) (dc : Nat) (la : Option Addr) (lc : Nat) (w : World) (hP : Pw w) (hr : Res.ok ⟨er, l, kd, ln, sz, xs⟩)
    (hd : RdB w (.slice da l.length dc) l) (hl : RdE w (.slice la xs.length lc) xs) (hdl : 2 * l.length + 1 ≤ 140737488355328) (h0 : er = 0) (hk : k = 9) :
    Calls Tryd.prog 30 #[.int .i64 k, .agg #[.int .i64 er, .slice da l.length dc, .int .i64 kd, .int .i64 ln, .int .i64 sz, .slice la xs.length lc]] w (TextBelow (Tr.answer k ⟨er, l, kd, ln, sz, xs⟩) w) := by
  have hX := Lib.hid (Box.new w 33 #[.int .i64 er, .slice da l.length dc, .int .i64 kd, .int .i64 ln, .int .i64 sz, .slice la xs.length lc])
  have hB0 := Lib.hid (show Below w.heap.size w (w.alloc (.cells #[.int .i64 er, .slice da l.length dc, .int .i64 kd, .int .i64 ln, .int .i64 sz, .slice la xs.length lc] 33)) from (Below.refl _ _).alloc (Nat.le_refl _) _)
  replace hP := Lib.hid hP
  have hfin := Lib.hid (show Tr.answer k ⟨er, l, kd, ln, sz, xs⟩ = [100, 97, 116, 97, 32] ++ Tr.hexes l by unfold Tr.answer; rw [if_neg (by simpa using h0), if_pos hk])
  have hz := Tr.hexes_len l
  have hN := fun w hr => bytesr_any (.slice da l.length dc) l w hr hdl
  obtain ⟨x, hx⟩ : ∃ x, Tr.hexes l = x := ⟨_, rfl⟩
  rw [hx] at hfin hN hz
  have hz' : x.length ≤ 140737488355328 := by omega
  clear hz
  replace hx := Lib.hid hx
  replace hN := Lib.hid hN
  subst h0
  subst hk
  replace hd := Lib.hid hd
  clear hr hl
  go_enter Tryd.func30, Tryd.ntmps30
  go_wp2_with fail
  refine (hN.out _ (hd.out.below hB0.out)).mono ?_
  rintro e w1 ⟨rfl, hb1⟩
  have hB1 := Lib.hid (hB0.out.trans (hb1.mono hB0.out.size))
  clear hb1
  go_wp2_with fail
  go_ret
  exact textBelow_mk hfin.out rfl hB1.out
set_option maxRecDepth 100000 in
set_option maxHeartbeats 8000000 in
theorem answerr_ok (k er : Int) (l : List UInt8) (kd ln sz : Int) (xs : List Ent) (da : Option Addr) (dc : Nat) (la : Option Addr) (lc : Nat) (w : World) (hP : Pw w) (hr : Res.ok ⟨er, l, kd, ln, sz, xs⟩)
    (hd : RdB w (.slice da l.length dc) l) (hl : RdE w (.slice la xs.length lc) xs) (hdl : 2 * l.length + 1 ≤ 140737488355328) (h0 : er = 0) (h9 : k ≠ 9) (h10 : k ≠ 10) (h11 : k ≠ 11) :
    Calls Tryd.prog 30 #[.int .i64 k, .agg #[.int .i64 er, .slice da l.length dc, .int .i64 kd, .int .i64 ln, .int .i64 sz, .slice la xs.length lc]] w (TextBelow (Tr.answer k ⟨er, l, kd, ln, sz, xs⟩) w) := by
  have hX := Lib.hid (Box.new w 33 #[.int .i64 er, .slice da l.length dc, .int .i64 kd, .int .i64 ln, .int .i64 sz, .slice la xs.length lc])
  have hB0 := Lib.hid (show Below w.heap.size w (w.alloc (.cells #[.int .i64 er, .slice da l.length dc, .int .i64 kd, .int .i64 ln, .int .i64 sz, .slice la xs.length lc] 33)) from (Below.refl _ _).alloc (Nat.le_refl _) _)
  replace hP := Lib.hid hP
  have hfin := Lib.hid (show Tr.answer k ⟨er, l, kd, ln, sz, xs⟩ = [111, 107] by unfold Tr.answer; rw [if_neg (by simpa using h0), if_neg h9, if_neg h10, if_neg h11])
  have e9 : (k == 9) = false := beq_eq_false_iff_ne.2 h9
  have e10 : (k == 10) = false := beq_eq_false_iff_ne.2 h10
  have e11 : (k == 11) = false := beq_eq_false_iff_ne.2 h11
  subst h0
  clear h9 h10 h11 hr hd hl
  go_enter Tryd.func30, Tryd.ntmps30
  go_wp2_with fail
  go_ret
  exact textBelow_mk hfin.out rfl hB0.out
set_option maxRecDepth 100000 in
set_option maxHeartbeats 8000000 in
theorem answerr_stat (k er : Int) (l : List UInt8) (kd ln sz : Int) (xs : List Ent) (da : Option Addr) (dc : Nat) (la : Option Addr) (lc : Nat) (w : World) (hP : Pw w) (hr : Res.ok ⟨er, l, kd, ln, sz, xs⟩)
    (hd : RdB w (.slice da l.length dc) l) (hl : RdE w (.slice la xs.length lc) xs) (hdl : 2 * l.length + 1 ≤ 140737488355328) (h0 : er = 0) (hk : k = 10) :
    Calls Tryd.prog 30 #[.int .i64 k, .agg #[.int .i64 er, .slice da l.length dc, .int .i64 kd, .int .i64 ln, .int .i64 sz, .slice la xs.length lc]] w (TextBelow (Tr.answer k ⟨er, l, kd, ln, sz, xs⟩) w) := by
  have hX := Lib.hid (Box.new w 33 #[.int .i64 er, .slice da l.length dc, .int .i64 kd, .int .i64 ln, .int .i64 sz, .slice la xs.length lc])
  have hB0 := Lib.hid (show Below w.heap.size w (w.alloc (.cells #[.int .i64 er, .slice da l.length dc, .int .i64 kd, .int .i64 ln, .int .i64 sz, .slice la xs.length lc] 33)) from (Below.refl _ _).alloc (Nat.le_refl _) _)
  replace hP := Lib.hid hP
  have hfin := Lib.hid (show Tr.answer k ⟨er, l, kd, ln, sz, xs⟩ = [115, 116, 97, 116, 32] ++ Lib.itoa kd ++ [32] ++ Lib.itoa ln ++ [32] ++ Lib.itoa sz by unfold Tr.answer; rw [if_neg (by simpa using h0), if_neg (by omega), if_pos hk])
  obtain ⟨-, hkd, hln, hsz, -⟩ := hr
  dsimp only at hkd hln hsz
  have hz1 := Lib.itoa_length_le kd hkd.1 hkd.2
  have hN1 := fun w hP => numr_any kd w hP hkd
  obtain ⟨x1, hx1⟩ : ∃ x, Lib.itoa kd = x := ⟨_, rfl⟩
  rw [hx1] at hfin hN1 hz1
  replace hx1 := Lib.hid hx1
  replace hN1 := Lib.hid hN1
  have hz2 := Lib.itoa_length_le ln hln.1 hln.2
  have hN2 := fun w hP => numr_any ln w hP hln
  obtain ⟨x2, hx2⟩ : ∃ x, Lib.itoa ln = x := ⟨_, rfl⟩
  rw [hx2] at hfin hN2 hz2
  replace hx2 := Lib.hid hx2
  replace hN2 := Lib.hid hN2
  have hz3 := Lib.itoa_length_le sz hsz.1 hsz.2
  have hN3 := fun w hP => numr_any sz w hP hsz
  obtain ⟨x3, hx3⟩ : ∃ x, Lib.itoa sz = x := ⟨_, rfl⟩
  rw [hx3] at hfin hN3 hz3
  replace hx3 := Lib.hid hx3
  replace hN3 := Lib.hid hN3
  subst h0
  subst hk
  have q1 : (⟨#[115, 116, 97, 116, 32]⟩ : ByteArray).size = 5 := rfl
  have q2 : (⟨#[32]⟩ : ByteArray).size = 1 := rfl
  have kr1 := fun W : World => run_string_add_sum (P := Tryd.prog) W ⟨#[115, 116, 97, 116, 32]⟩ (S x1) (by rw [S_size, q1]; omega)
  have kr2 := fun W : World => run_string_add_sum (P := Tryd.prog) W (⟨#[115, 116, 97, 116, 32]⟩ ++ S x1) ⟨#[32]⟩ (by rw [ByteArray.size_append, S_size, q1, q2]; omega)
  have kr3 := fun W : World => run_string_add_sum (P := Tryd.prog) W (⟨#[115, 116, 97, 116, 32]⟩ ++ S x1 ++ ⟨#[32]⟩) (S x2) (by rw [ByteArray.size_append, ByteArray.size_append, S_size, S_size, q1, q2]; omega)
  have kr4 := fun W : World => run_string_add_sum (P := Tryd.prog) W (⟨#[115, 116, 97, 116, 32]⟩ ++ S x1 ++ ⟨#[32]⟩ ++ S x2) ⟨#[32]⟩ (by rw [ByteArray.size_append, ByteArray.size_append, ByteArray.size_append, S_size, S_size, q1, q2]; omega)
  have kr5 := fun W : World => run_string_add_sum (P := Tryd.prog) W (⟨#[115, 116, 97, 116, 32]⟩ ++ S x1 ++ ⟨#[32]⟩ ++ S x2 ++ ⟨#[32]⟩) (S x3) (by rw [ByteArray.size_append, ByteArray.size_append, ByteArray.size_append, ByteArray.size_append, S_size, S_size, S_size, q1, q2]; omega)
  clear q1 q2
  clear hd hl hkd hln hsz
  go_enter Tryd.func30, Tryd.ntmps30
  go_upto_region 7 with fail
  have cX := hX.out.cell
  have hlt := hX.out.lt
  generalize w.alloc (.cells #[.int .i64 0, .slice da l.length dc, .int .i64 kd, .int .i64 ln, .int .i64 sz, .slice la xs.length lc] 33) = W0 at cX hlt hB0 ⊢
  go_region_held3 (fun w' => (∀ j, w'.cell? ⟨w.heap.size, j, none⟩ = #[.int .i64 0, .slice da l.length dc, .int .i64 kd, .int .i64 ln, .int .i64 sz, .slice la xs.length lc][j]?))
    ((intro j; (repeat (first | rw [hc3.cell (by show (_ : Nat) < v2.heap.size; dsimp only; omega)] | rw [hc2.cell (by show (_ : Nat) < v1.heap.size; dsimp only; omega)] | rw [hc1.cell (by show (_ : Nat) < W0.heap.size; dsimp only; omega)])); exact cX j))
    (first
      | (go_at_call 62; (with_reducible refine (hN1.out _ (hP.out.below hB0.out.drew)).mono ?_); rintro e v1 ⟨rfl, hc1⟩; have z1 : W0.heap.size ≤ v1.heap.size := hc1.size; have u1 := Lib.hid (hB0.out.drew.trans (hc1.mono hB0.out.drew.size)))
      | (go_at_call 62; (with_reducible refine (hN2.out _ (hP.out.below u1.out)).mono ?_); rintro e v2 ⟨rfl, hc2⟩; have z2 : v1.heap.size ≤ v2.heap.size := hc2.size; have u2 := Lib.hid (u1.out.trans (hc2.mono u1.out.size)))
      | (go_at_call 62; (with_reducible refine (hN3.out _ (hP.out.below u2.out)).mono ?_); rintro e v3 ⟨rfl, hc3⟩; have z3 : v2.heap.size ≤ v3.heap.size := hc3.size; have u3 := Lib.hid (u2.out.trans (hc3.mono u2.out.size))))
  all_goals
    go_wp2_with fail
    go_ret
    exact textBelow_mk hfin.out (by rw [← stat_eq]; rfl) u3.out
/-- What the list's line holds behind i entries. -/
def Tr.flat (xs : List Ent) (i : Nat) : List UInt8 := [108, 105, 115, 116] ++ ((xs.take i).map Tr.ent).flatMap (32 :: ·)
theorem Tr.flat_zero (xs : List Ent) : Tr.flat xs 0 = [108, 105, 115, 116] := by simp [Tr.flat]
theorem Tr.flat_succ (xs : List Ent) (i : Nat) (x : Ent) (h : xs[i]? = some x) : Tr.flat xs (i + 1) = Tr.flat xs i ++ ([32] ++ Tr.quo x.name ++ [58] ++ Lib.itoa x.kind) := by
  unfold Tr.flat
  rw [List.take_add_one, h, Option.toList_some, List.map_append, List.flatMap_append]
  simp [Tr.ent]
theorem Tr.flat_all (xs : List Ent) : Tr.flat xs xs.length = Lib.join ([108, 105, 115, 116] :: xs.map Tr.ent) [32] := by
  unfold Tr.flat; rw [List.take_length, join_flat]
theorem Tr.flat_le (xs : List Ent) (i : Nat) : (Tr.flat xs i).length ≤ (Lib.join ([108, 105, 115, 116] :: xs.map Tr.ent) [32]).length := by
  rw [join_flat]
  unfold Tr.flat
  have e := congrArg (fun l => (l.map Tr.ent).flatMap (32 :: ·)) (List.take_append_drop i xs)
  simp only [List.map_append, List.flatMap_append] at e
  rw [← e]
  simp only [List.length_append]
  omega
theorem flat_eq (f q y : List UInt8) : S f ++ ((⟨#[32]⟩ : ByteArray) ++ S q ++ ⟨#[58]⟩ ++ S y) = S (f ++ ([32] ++ q ++ [58] ++ y)) := by
  rw [show (⟨#[32]⟩ : ByteArray) = S [32] from rfl, show (⟨#[58]⟩ : ByteArray) = S [58] from rfl, ← S_append, ← S_append, ← S_append, ← S_append]
set_option maxRecDepth 100000 in
set_option maxHeartbeats 8000000 in
theorem answerr_list (k er : Int) (l : List UInt8) (kd ln sz : Int) (xs : List Ent) (da : Option Addr) (dc : Nat) (la : Option Addr) (lc : Nat) (w : World) (hP : Pw w) (hr : Res.ok ⟨er, l, kd, ln, sz, xs⟩)
    (hd : RdB w (.slice da l.length dc) l) (hl : RdE w (.slice la xs.length lc) xs) (hdl : 2 * l.length + 1 ≤ 140737488355328) (hes : ∀ e ∈ xs, 3 * e.name.length ≤ 140737488355328 ∧ in64 e.kind) (hm : xs.length ≤ 1000000000000) (hj : (Lib.join ([108, 105, 115, 116] :: xs.map Tr.ent) [32]).length ≤ 140737488355328) (h0 : er = 0) (hk : k = 11) :
    Calls Tryd.prog 30 #[.int .i64 k, .agg #[.int .i64 er, .slice da l.length dc, .int .i64 kd, .int .i64 ln, .int .i64 sz, .slice la xs.length lc]] w (TextBelow (Tr.answer k ⟨er, l, kd, ln, sz, xs⟩) w) := by
  have hX := Lib.hid (Box.new w 33 #[.int .i64 er, .slice da l.length dc, .int .i64 kd, .int .i64 ln, .int .i64 sz, .slice la xs.length lc])
  have hB0 := Lib.hid (show Below w.heap.size w (w.alloc (.cells #[.int .i64 er, .slice da l.length dc, .int .i64 kd, .int .i64 ln, .int .i64 sz, .slice la xs.length lc] 33)) from (Below.refl _ _).alloc (Nat.le_refl _) _)
  replace hP := Lib.hid hP
  have hfin := Lib.hid (show Tr.answer k ⟨er, l, kd, ln, sz, xs⟩ = Tr.flat xs xs.length by unfold Tr.answer; rw [if_neg (by simpa using h0), if_neg (by omega), if_neg (by omega), if_pos hk, Tr.flat_all])
  have hat : xs ≠ [] → _ := hl.at
  have hF := Lib.hid (fun i => Nat.le_trans (Tr.flat_le xs i) hj)
  subst h0
  subst hk
  replace hes := Lib.hid hes
  replace hat := Lib.hid hat
  clear hd hdl hr hl hj
  go_enter Tryd.func30, Tryd.ntmps30
  go_wp2_with fail
  go_loopw [5, 6] (fun v k wr => ∃ i : Nat, i ≤ xs.length ∧ k = .int .i64 i ∧ v = .string (S (Tr.flat xs i)) ∧ Box wr w.heap.size 33 #[.int .i64 0, .slice da l.length dc, .int .i64 kd, .int .i64 ln, .int .i64 sz, .slice la xs.length lc] ∧ Below w.heap.size w wr)
    (fun _ k _ => xs.length - (intOf k).toNat)
  case atStart => exact ⟨0, Nat.zero_le _, rfl, by rw [Tr.flat_zero]; rfl, hX.out, hB0.out⟩
  case round =>
    obtain ⟨i, hi, rfl, rfl, hbox, hW⟩ := hrel
    have hFi := hF.out i
    have hlt0 := hbox.lt
    have c5 := hbox.get 5 _ rfl
    have cX := hbox.cell
    have hbox := Lib.hid hbox
    by_cases hlt : i < xs.length
    · have hne : xs ≠ [] := by intro h; rw [h] at hlt; simp at hlt
      obtain ⟨b, o, cap', hv, hcap, hb, hcell⟩ := hat.out hne
      cases hv
      obtain ⟨d0, d1, d2⟩ := hcell i hlt
      clear d1
      rw [← hW.cell (p := ⟨b, o + i * 3, none⟩) hb] at d0
      rw [← hW.cell (p := ⟨b, o + i * 3 + 2, none⟩) hb] at d2
      clear hcell hat hne
      have hee := Lib.hid (hes.out xs[i] (List.getElem_mem hlt))
      obtain ⟨x, hx⟩ : ∃ x, xs[i] = x := ⟨_, rfl⟩
      rw [hx] at d0 d2 hee
      have hfs := Lib.hid (Tr.flat_succ xs i x (by rw [← hx]; exact List.getElem?_eq_getElem hlt))
      replace hx := Lib.hid hx
      have hq1 := Tr.quo_len x.name
      have hq2 := hee.out.1
      have hq3 := Lib.itoa_length_le x.kind hee.out.2.1 hee.out.2.2
      have hq4 : (Tr.quo x.name).length ≤ 140737488355329 := by omega
      clear hq1
      have hN1 := fun w => quoter_any x.name w hq2
      have hN2 := fun w hP => numr_any x.kind w hP hee.out.2
      clear hee hq2
      obtain ⟨xn, xi, xk⟩ := x
      dsimp only at d0 d2 hq3 hq4 hN1 hN2 hfs
      obtain ⟨q, hq⟩ : ∃ q, Tr.quo xn = q := ⟨_, rfl⟩
      obtain ⟨y, hy⟩ : ∃ y, Lib.itoa xk = y := ⟨_, rfl⟩
      rw [hq] at hfs hq4 hN1
      rw [hy] at hfs hq3 hN2
      replace hq := Lib.hid hq
      replace hy := Lib.hid hy
      replace hN1 := Lib.hid hN1
      replace hN2 := Lib.hid hN2
      generalize Tr.flat xs i = f at hfs hFi ⊢
      have q1 : (⟨#[32]⟩ : ByteArray).size = 1 := rfl
      have q2 : (⟨#[58]⟩ : ByteArray).size = 1 := rfl
      have kr1 := fun W : World => run_string_add_sum (P := Tryd.prog) W ⟨#[32]⟩ (S q) (by rw [S_size, q1]; omega)
      have kr2 := fun W : World => run_string_add_sum (P := Tryd.prog) W (⟨#[32]⟩ ++ S q) ⟨#[58]⟩ (by rw [ByteArray.size_append, S_size, q1, q2]; omega)
      have kr3 := fun W : World => run_string_add_sum (P := Tryd.prog) W (⟨#[32]⟩ ++ S q ++ ⟨#[58]⟩) (S y) (by rw [ByteArray.size_append, ByteArray.size_append, S_size, S_size, q1, q2]; omega)
      have kr4 := fun W : World => run_string_add_sum (P := Tryd.prog) W (S f) (⟨#[32]⟩ ++ S q ++ ⟨#[58]⟩ ++ S y) (by rw [ByteArray.size_append, ByteArray.size_append, ByteArray.size_append, S_size, S_size, S_size, q1, q2]; omega)
      clear q1 q2
      have hi0 : (0 : Int) ≤ (i : Int) := by omega
      have hi1 : (i : Int) < (xs.length : Int) := by omega
      have hwz := hW.size
      replace hW := Lib.hid hW
      go_wp2_with fail
      go_region_held3 (fun w' => (∀ j, w'.cell? ⟨w.heap.size, j, none⟩ = #[.int .i64 0, .slice da l.length dc, .int .i64 kd, .int .i64 ln, .int .i64 sz, .slice (some ⟨b, o, none⟩) xs.length lc][j]?) ∧ w'.cell? ⟨b, o + i * 3, none⟩ = some (.string (S xn)) ∧ w'.cell? ⟨b, o + i * 3 + 2, none⟩ = some (.int .i64 xk))
        ((refine ⟨?_, ?_, ?_⟩ <;> (try intro j) <;> (repeat (first | rw [hc2.cell (by show (_ : Nat) < v1.heap.size; dsimp only; omega)] | rw [hc1.cell (by show (_ : Nat) < wr.heap.size; dsimp only; omega)])) <;> first | exact cX j | exact d0 | exact d2))
        (first
          | (go_at_call 13; (with_reducible refine (hN1.out _).mono ?_); rintro e v1 ⟨rfl, hc1⟩; have z1 : wr.heap.size ≤ v1.heap.size := hc1.size; have u1 := Lib.hid (hW.out.drew.trans (hc1.mono hW.out.drew.size)); have p1 := Lib.hid ((hbox.out.below (Below.refl _ _).drew).below hc1))
          | (go_at_call 62; (with_reducible refine (hN2.out _ (hP.out.below u1.out)).mono ?_); rintro e v2 ⟨rfl, hc2⟩; have z2 : v1.heap.size ≤ v2.heap.size := hc2.size; have u2 := Lib.hid (u1.out.trans (hc2.mono u1.out.size)); have p2 := Lib.hid (p1.out.below hc2)))
      all_goals
        go_wp2_with fail
        go_roundw
        case rel => exact ⟨i + 1, by omega, by go_num, by rw [hfs.out, ← flat_eq], p2.out, u2.out⟩
        case measure => simp [intOf]; omega
    · have hi' : i = xs.length := by omega
      subst hi'
      go_wp2_with fail
      go_ret
      exact textBelow_mk hfin.out rfl hW
theorem answerr_any (k : Int) (r : Res) (dv lv : Value) (w : World) (hP : Pw w) (hr : r.ok) (hf : r.fits) (hd : RdB w dv r.data) (hl : RdE w lv r.list) :
    Calls Tryd.prog 30 #[.int .i64 k, .agg #[.int .i64 r.err, dv, .int .i64 r.kind, .int .i64 r.links, .int .i64 r.size, lv]] w (TextBelow (Tr.answer k r) w) := by
  obtain ⟨er, l, kd, ln, sz, xs⟩ := r
  dsimp only at *
  obtain ⟨da, dc, rfl⟩ := hd.len
  obtain ⟨la, lc, rfl⟩ := hl.len
  by_cases h0 : er = 0
  · by_cases h9 : k = 9
    · exact answerr_data k er l kd ln sz xs da dc la lc w hP hr hd hl hf.data h0 h9
    by_cases h10 : k = 10
    · exact answerr_stat k er l kd ln sz xs da dc la lc w hP hr hd hl hf.data h0 h10
    by_cases h11 : k = 11
    · exact answerr_list k er l kd ln sz xs da dc la lc w hP hr hd hl hf.data (fun e he => ⟨hf.names e he, hr.2.2.2.2 e he⟩) hf.many hf.line h0 h11
    exact answerr_ok k er l kd ln sz xs da dc la lc w hP hr hd hl hf.data h0 h9 h10 h11
  · exact answerr_err k er l kd ln sz xs da dc la lc w hP hr hd hl hf.data h0
end Go.Proofs.YtpoongljokbgcaaDoor
