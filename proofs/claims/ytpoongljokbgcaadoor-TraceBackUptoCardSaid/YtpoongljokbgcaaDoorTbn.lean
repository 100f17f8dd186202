import Derived.Test.YtpoongljokbgcaaDoorTbg
import Derived.Deep.DeepCutAuto
/- The reference's plain call (slipwayref27.Plain), printed by wip/tools/plain27.py. -/
namespace Go.Proofs.YtpoongljokbgcaaDoor
open Go.RowKit
set_option maxRecDepth 100000 in
set_option maxHeartbeats 4000000 in
theorem plainr_none (k : Int) (p t : List UInt8) (f n : Int) (l : List UInt8) (dv : Value) (w : World) (hr : RdB w dv l) (hd : k = 7 → l.length ≤ 140737488355328) (x : List UInt8) (hx : Tr.word k = x) (hk : ¬ (1 ≤ k ∧ k ≤ 13)) (hx0 : x = []) :
    Calls Tryd.prog 27 #[.agg #[.int .i64 k, .string (S p), .string (S t), .int .i64 f, .int .i64 n, dv]] w (PlainRes (Tr.plain ⟨k, p, t, f, n, l⟩) w) := by
  have hW0 := wordr_any k
  rw [hx] at hW0
  replace hW0 := Lib.hid hW0
  replace hx := Lib.hid hx
  have hfin := Lib.hid (show Tr.plain ⟨k, p, t, f, n, l⟩ = ⟨k, [], [], 0, 0, []⟩ by
    unfold Tr.plain
    simp only [Opr.mk.injEq, true_and]
    refine ⟨?_, ?_, ?_, ?_, ?_⟩ <;> first | rw [if_pos (by omega)] | rw [if_neg (by omega)])
  subst hx0
  clear hk
  have hB0 := Lib.hid (show Below w.heap.size w (w.alloc (.cells #[.int .i64 k, .string (S p), .string (S t), .int .i64 f, .int .i64 n, dv] 44)) from (Below.refl _ _).alloc (Nat.le_refl _) _)
  clear hr
  clear hd
  go_enter Tryd.func27, Tryd.ntmps27
  go_wp2_with fail
  refine (hW0.out _).mono ?_
  rintro e w0 ⟨rfl, rfl⟩
  go_wp2_with fail
  refine bodyPost_ret (v := .agg #[.int .i64 k, .string (S []), .string (S []), .int .i64 0, .int .i64 0, .slice none 0 0]) (by simp [results, Tryd.results27, go_sem] <;> rfl) rfl ?_
  exact plainRes_mk hfin.out rfl (Rd.nil _ _) ((hB0.out.alloc hB0.out.size _).alloc (by have := hB0.out.size; rw [World.size_alloc]; omega) _)
set_option maxRecDepth 100000 in
set_option maxHeartbeats 4000000 in
theorem plainr_sync (k : Int) (p t : List UInt8) (f n : Int) (l : List UInt8) (dv : Value) (w : World) (hr : RdB w dv l) (hd : k = 7 → l.length ≤ 140737488355328) (x : List UInt8) (hx : Tr.word k = x) (hk : k = 13) (hx1 : (x == []) = false) :
    Calls Tryd.prog 27 #[.agg #[.int .i64 k, .string (S p), .string (S t), .int .i64 f, .int .i64 n, dv]] w (PlainRes (Tr.plain ⟨k, p, t, f, n, l⟩) w) := by
  have hW0 := wordr_any k
  rw [hx] at hW0
  replace hW0 := Lib.hid hW0
  replace hx := Lib.hid hx
  have hfin := Lib.hid (show Tr.plain ⟨k, p, t, f, n, l⟩ = ⟨k, [], [], 0, 0, []⟩ by
    unfold Tr.plain
    simp only [Opr.mk.injEq, true_and]
    refine ⟨?_, ?_, ?_, ?_, ?_⟩ <;> first | rw [if_pos (by omega)] | rw [if_neg (by omega)])
  subst hk
  have hB0 := Lib.hid (show Below w.heap.size w (w.alloc (.cells #[.int .i64 13, .string (S p), .string (S t), .int .i64 f, .int .i64 n, dv] 44)) from (Below.refl _ _).alloc (Nat.le_refl _) _)
  clear hr
  clear hd
  go_enter Tryd.func27, Tryd.ntmps27
  go_wp2_with fail
  refine (hW0.out _).mono ?_
  rintro e w0 ⟨rfl, rfl⟩
  go_wp2_with fail
  refine bodyPost_ret (v := .agg #[.int .i64 13, .string (S []), .string (S []), .int .i64 0, .int .i64 0, .slice none 0 0]) (by simp [results, Tryd.results27, go_sem] <;> rfl) rfl ?_
  exact plainRes_mk hfin.out rfl (Rd.nil _ _) ((hB0.out.alloc hB0.out.size _).alloc (by have := hB0.out.size; rw [World.size_alloc]; omega) _)
set_option maxRecDepth 100000 in
set_option maxHeartbeats 4000000 in
theorem plainr_to (k : Int) (p t : List UInt8) (f n : Int) (l : List UInt8) (dv : Value) (w : World) (hr : RdB w dv l) (hd : k = 7 → l.length ≤ 140737488355328) (x : List UInt8) (hx : Tr.word k = x) (hk : k = 3 ∨ k = 6) (hx1 : (x == []) = false) :
    Calls Tryd.prog 27 #[.agg #[.int .i64 k, .string (S p), .string (S t), .int .i64 f, .int .i64 n, dv]] w (PlainRes (Tr.plain ⟨k, p, t, f, n, l⟩) w) := by
  have hW0 := wordr_any k
  rw [hx] at hW0
  replace hW0 := Lib.hid hW0
  replace hx := Lib.hid hx
  have hfin := Lib.hid (show Tr.plain ⟨k, p, t, f, n, l⟩ = ⟨k, p, t, 0, 0, []⟩ by
    unfold Tr.plain
    simp only [Opr.mk.injEq, true_and]
    refine ⟨?_, ?_, ?_, ?_, ?_⟩ <;> first | rw [if_pos (by omega)] | rw [if_neg (by omega)])
  have hT := fun w => hasTo_any k w true (by constructor <;> intro h <;> first | rfl | (cases h; done) | omega | (exfalso; omega))
  have hO := fun w => hasOff_any k w false (by constructor <;> intro h <;> first | rfl | (cases h; done) | omega | (exfalso; omega))
  have hL := fun w => hasLen_any k w false (by constructor <;> intro h <;> first | rfl | (cases h; done) | omega | (exfalso; omega))
  replace hT := Lib.hid hT
  replace hO := Lib.hid hO
  replace hL := Lib.hid hL
  have e7 : (k == 7) = false := beq_eq_false_iff_ne.2 (by omega)
  have e13 : (k == 13) = false := beq_eq_false_iff_ne.2 (by omega)
  clear hk
  have hB0 := Lib.hid (show Below w.heap.size w (w.alloc (.cells #[.int .i64 k, .string (S p), .string (S t), .int .i64 f, .int .i64 n, dv] 44)) from (Below.refl _ _).alloc (Nat.le_refl _) _)
  clear hr
  clear hd
  go_enter Tryd.func27, Tryd.ntmps27
  go_wp2_with fail
  refine (hW0.out _).mono ?_
  rintro e w0 ⟨rfl, rfl⟩
  go_wp2_with fail
  refine (hT.out _).mono ?_
  rintro e w0 ⟨rfl, rfl⟩
  go_wp2_with fail
  refine (hO.out _).mono ?_
  rintro e w0 ⟨rfl, rfl⟩
  go_wp2_with fail
  refine (hL.out _).mono ?_
  rintro e w0 ⟨rfl, rfl⟩
  go_wp2_with fail
  refine bodyPost_ret (v := .agg #[.int .i64 k, .string (S p), .string (S t), .int .i64 0, .int .i64 0, .slice none 0 0]) (by simp [results, Tryd.results27, go_sem] <;> rfl) rfl ?_
  exact plainRes_mk hfin.out rfl (Rd.nil _ _) ((hB0.out.alloc hB0.out.size _).alloc (by have := hB0.out.size; rw [World.size_alloc]; omega) _)
set_option maxRecDepth 100000 in
set_option maxHeartbeats 4000000 in
theorem plainr_off (k : Int) (p t : List UInt8) (f n : Int) (l : List UInt8) (dv : Value) (w : World) (hr : RdB w dv l) (hd : k = 7 → l.length ≤ 140737488355328) (x : List UInt8) (hx : Tr.word k = x) (hk : k = 7) (hx1 : (x == []) = false) :
    Calls Tryd.prog 27 #[.agg #[.int .i64 k, .string (S p), .string (S t), .int .i64 f, .int .i64 n, dv]] w (PlainRes (Tr.plain ⟨k, p, t, f, n, l⟩) w) := by
  have hW0 := wordr_any k
  rw [hx] at hW0
  replace hW0 := Lib.hid hW0
  replace hx := Lib.hid hx
  have hfin := Lib.hid (show Tr.plain ⟨k, p, t, f, n, l⟩ = ⟨k, p, [], f, 0, l⟩ by
    unfold Tr.plain
    simp only [Opr.mk.injEq, true_and]
    refine ⟨?_, ?_, ?_, ?_, ?_⟩ <;> first | rw [if_pos (by omega)] | rw [if_neg (by omega)])
  have hT := fun w => hasTo_any k w false (by constructor <;> intro h <;> first | rfl | (cases h; done) | omega | (exfalso; omega))
  have hO := fun w => hasOff_any k w true (by constructor <;> intro h <;> first | rfl | (cases h; done) | omega | (exfalso; omega))
  have hL := fun w => hasLen_any k w false (by constructor <;> intro h <;> first | rfl | (cases h; done) | omega | (exfalso; omega))
  replace hT := Lib.hid hT
  replace hO := Lib.hid hO
  replace hL := Lib.hid hL
  subst hk
  have hB0 := Lib.hid (show Below w.heap.size w (w.alloc (.cells #[.int .i64 7, .string (S p), .string (S t), .int .i64 f, .int .i64 n, dv] 44)) from (Below.refl _ _).alloc (Nat.le_refl _) _)
  obtain ⟨i0, hi0, hz0, hz1, hz2⟩ := info_parts infoByte
  have hd7 := hd rfl
  replace hr := Lib.hid hr
  clear hd
  go_enter Tryd.func27, Tryd.ntmps27
  go_wp2_with fail
  refine (hW0.out _).mono ?_
  rintro e w0 ⟨rfl, rfl⟩
  go_wp2_with fail
  refine (hT.out _).mono ?_
  rintro e w0 ⟨rfl, rfl⟩
  go_wp2_with fail
  refine (hO.out _).mono ?_
  rintro e w0 ⟨rfl, rfl⟩
  go_wp2_with fail
  refine (hL.out _).mono ?_
  rintro e w0 ⟨rfl, rfl⟩
  go_upto_region 12 with fail
  have hw2 : Below w.heap.size w (((w.alloc (.cells #[.int .i64 7, .string (S p), .string (S t), .int .i64 f, .int .i64 n, dv] 44)).alloc (.cells #[.int .i64 0, .string ⟨#[]⟩, .string ⟨#[]⟩, .int .i64 0, .int .i64 0, .slice none 0 0] 44)).alloc (.cells #[.int .i64 7, .string (S p), .string ⟨#[]⟩, .int .i64 f, .int .i64 0, .slice none 0 0] 44)) := (hB0.out.alloc hB0.out.size _).alloc (by have := hB0.out.size; rw [World.size_alloc]; omega) _
  have hX1 := ((Box.new w 44 #[.int .i64 7, .string (S p), .string (S t), .int .i64 f, .int .i64 n, dv]).alloc (.cells #[.int .i64 0, .string ⟨#[]⟩, .string ⟨#[]⟩, .int .i64 0, .int .i64 0, .slice none 0 0] 44)).alloc (.cells #[.int .i64 7, .string (S p), .string ⟨#[]⟩, .int .i64 f, .int .i64 0, .slice none 0 0] 44)
  have hX2 := (Box.new (w.alloc (.cells #[.int .i64 7, .string (S p), .string (S t), .int .i64 f, .int .i64 n, dv] 44)) 44 #[.int .i64 0, .string ⟨#[]⟩, .string ⟨#[]⟩, .int .i64 0, .int .i64 0, .slice none 0 0]).alloc (.cells #[.int .i64 7, .string (S p), .string ⟨#[]⟩, .int .i64 f, .int .i64 0, .slice none 0 0] 44)
  have hX3 := Box.new ((w.alloc (.cells #[.int .i64 7, .string (S p), .string (S t), .int .i64 f, .int .i64 n, dv] 44)).alloc (.cells #[.int .i64 0, .string ⟨#[]⟩, .string ⟨#[]⟩, .int .i64 0, .int .i64 0, .slice none 0 0] 44)) 44 #[.int .i64 7, .string (S p), .string ⟨#[]⟩, .int .i64 f, .int .i64 0, .slice none 0 0]
  have hz : w.heap.size + 2 < (((w.alloc (.cells #[.int .i64 7, .string (S p), .string (S t), .int .i64 f, .int .i64 n, dv] 44)).alloc (.cells #[.int .i64 0, .string ⟨#[]⟩, .string ⟨#[]⟩, .int .i64 0, .int .i64 0, .slice none 0 0] 44)).alloc (.cells #[.int .i64 7, .string (S p), .string ⟨#[]⟩, .int .i64 f, .int .i64 0, .slice none 0 0] 44)).heap.size := by simp only [World.size_alloc]; omega
  simp only [World.size_alloc] at hX2 hX3
  generalize (((w.alloc (.cells #[.int .i64 7, .string (S p), .string (S t), .int .i64 f, .int .i64 n, dv] 44)).alloc (.cells #[.int .i64 0, .string ⟨#[]⟩, .string ⟨#[]⟩, .int .i64 0, .int .i64 0, .slice none 0 0] 44)).alloc (.cells #[.int .i64 7, .string (S p), .string ⟨#[]⟩, .int .i64 f, .int .i64 0, .slice none 0 0] 44)) = W2 at hw2 hX1 hX2 hX3 hz ⊢
  have hr2 := Lib.hid (hr.out.below hw2)
  have a5 := hX1.get 5 _ rfl
  replace hw2 := Lib.hid hw2
  replace hX1 := Lib.hid hX1
  replace hX2 := Lib.hid hX2
  replace hX3 := Lib.hid hX3
  go_wp2_with (at_builtin; go_must (refine wpList_append_rd (enc := byteV) rfl _ _ 28 rfl W2.heap.size 5 i0 (.int .u8 0) 1 Tryd.underlying28 hi0 hz0 hz1 hz2 rfl (.slice none 0 0) 0 [] rfl (World.ownsRow_nil _ _ _ _) _ l rfl hr2.out (fun _ => rfl) (by unfold maxLen; omega) (by omega) (Nat.le_refl _) ?_); intro vd w1 hown hgrow; rw [Nat.zero_add, List.nil_append] at hown; have hb1 : Below W2.heap.size W2 w1 := (Below.refl _ _).grown hgrow (Nat.le_refl _) (fun k hk => by cases hk); have bX2 := hX2.out.below hb1; have bX3 := hX3.out.below hb1; obtain ⟨ad, cp, rfl⟩ := (Rd.of_own (enc := byteV) (xs := l) hown).len; have g0 := bX3.get 0 _ rfl; have g1 := bX3.get 1 _ rfl; have g2 := bX3.get 2 _ rfl; have g3 := bX3.get 3 _ rfl; have g4 := bX3.get 4 _ rfl; have g5 := bX3.get 5 _ rfl; have g6 := bX3.frozen 5; have d0 := bX2.get 0 _ rfl; have d1 := bX2.get 1 _ rfl; have d2 := bX2.get 2 _ rfl; have d3 := bX2.get 3 _ rfl; have d4 := bX2.get 4 _ rfl; have d5 := bX2.get 5 _ rfl; have k0 := bX2.frozen 0; have k1 := bX2.frozen 1; have k2 := bX2.frozen 2; have k3 := bX2.frozen 3; have k4 := bX2.frozen 4; have k5 := bX2.frozen 5; replace hown := Lib.hid hown; replace bX2 := Lib.hid bX2; replace bX3 := Lib.hid bX3; replace hb1 := Lib.hid hb1)
  have W1 : Below w.heap.size w w1 := hw2.out.trans (hb1.out.mono hw2.out.size)
  have W3 := W1.setCell (p := ⟨w.heap.size + 1 + 1, 5, none⟩) (by show w.heap.size ≤ w.heap.size + 1 + 1; omega) (.slice ad l.length cp)
  obtain ⟨hp6, hb6⟩ := put6 (bX2.out.setFar ⟨w.heap.size + 1 + 1, 5, none⟩ (.slice ad l.length cp) (by simp)) (.int .i64 7) (.string (S p)) (.string ⟨#[]⟩) (.int .i64 f) (.int .i64 0) (.slice ad l.length cp) W3 (by omega)
  refine bodyPost_ret (res27 hp6 rfl) rfl ?_
  refine plainRes_mk hfin.out rfl (Rd.of_own (B := W2.heap.size) (e := 5) (own_put6 (own_setFar hown.out ?_ _) ?_ _ _ _ _ _ _)) hb6
  · show w.heap.size + 1 + 1 < W2.heap.size; omega
  · omega
set_option maxRecDepth 100000 in
set_option maxHeartbeats 4000000 in
theorem plainr_len (k : Int) (p t : List UInt8) (f n : Int) (l : List UInt8) (dv : Value) (w : World) (hr : RdB w dv l) (hd : k = 7 → l.length ≤ 140737488355328) (x : List UInt8) (hx : Tr.word k = x) (hk : k = 8) (hx1 : (x == []) = false) :
    Calls Tryd.prog 27 #[.agg #[.int .i64 k, .string (S p), .string (S t), .int .i64 f, .int .i64 n, dv]] w (PlainRes (Tr.plain ⟨k, p, t, f, n, l⟩) w) := by
  have hW0 := wordr_any k
  rw [hx] at hW0
  replace hW0 := Lib.hid hW0
  replace hx := Lib.hid hx
  have hfin := Lib.hid (show Tr.plain ⟨k, p, t, f, n, l⟩ = ⟨k, p, [], 0, n, []⟩ by
    unfold Tr.plain
    simp only [Opr.mk.injEq, true_and]
    refine ⟨?_, ?_, ?_, ?_, ?_⟩ <;> first | rw [if_pos (by omega)] | rw [if_neg (by omega)])
  have hT := fun w => hasTo_any k w false (by constructor <;> intro h <;> first | rfl | (cases h; done) | omega | (exfalso; omega))
  have hO := fun w => hasOff_any k w false (by constructor <;> intro h <;> first | rfl | (cases h; done) | omega | (exfalso; omega))
  have hL := fun w => hasLen_any k w true (by constructor <;> intro h <;> first | rfl | (cases h; done) | omega | (exfalso; omega))
  replace hT := Lib.hid hT
  replace hO := Lib.hid hO
  replace hL := Lib.hid hL
  subst hk
  have hB0 := Lib.hid (show Below w.heap.size w (w.alloc (.cells #[.int .i64 8, .string (S p), .string (S t), .int .i64 f, .int .i64 n, dv] 44)) from (Below.refl _ _).alloc (Nat.le_refl _) _)
  clear hr
  clear hd
  go_enter Tryd.func27, Tryd.ntmps27
  go_wp2_with fail
  refine (hW0.out _).mono ?_
  rintro e w0 ⟨rfl, rfl⟩
  go_wp2_with fail
  refine (hT.out _).mono ?_
  rintro e w0 ⟨rfl, rfl⟩
  go_wp2_with fail
  refine (hO.out _).mono ?_
  rintro e w0 ⟨rfl, rfl⟩
  go_wp2_with fail
  refine (hL.out _).mono ?_
  rintro e w0 ⟨rfl, rfl⟩
  go_wp2_with fail
  refine bodyPost_ret (v := .agg #[.int .i64 8, .string (S p), .string (S []), .int .i64 0, .int .i64 n, .slice none 0 0]) (by simp [results, Tryd.results27, go_sem] <;> rfl) rfl ?_
  exact plainRes_mk hfin.out rfl (Rd.nil _ _) ((hB0.out.alloc hB0.out.size _).alloc (by have := hB0.out.size; rw [World.size_alloc]; omega) _)
set_option maxRecDepth 100000 in
set_option maxHeartbeats 4000000 in
theorem plainr_both (k : Int) (p t : List UInt8) (f n : Int) (l : List UInt8) (dv : Value) (w : World) (hr : RdB w dv l) (hd : k = 7 → l.length ≤ 140737488355328) (x : List UInt8) (hx : Tr.word k = x) (hk : k = 9) (hx1 : (x == []) = false) :
    Calls Tryd.prog 27 #[.agg #[.int .i64 k, .string (S p), .string (S t), .int .i64 f, .int .i64 n, dv]] w (PlainRes (Tr.plain ⟨k, p, t, f, n, l⟩) w) := by
  have hW0 := wordr_any k
  rw [hx] at hW0
  replace hW0 := Lib.hid hW0
  replace hx := Lib.hid hx
  have hfin := Lib.hid (show Tr.plain ⟨k, p, t, f, n, l⟩ = ⟨k, p, [], f, n, []⟩ by
    unfold Tr.plain
    simp only [Opr.mk.injEq, true_and]
    refine ⟨?_, ?_, ?_, ?_, ?_⟩ <;> first | rw [if_pos (by omega)] | rw [if_neg (by omega)])
  have hT := fun w => hasTo_any k w false (by constructor <;> intro h <;> first | rfl | (cases h; done) | omega | (exfalso; omega))
  have hO := fun w => hasOff_any k w true (by constructor <;> intro h <;> first | rfl | (cases h; done) | omega | (exfalso; omega))
  have hL := fun w => hasLen_any k w true (by constructor <;> intro h <;> first | rfl | (cases h; done) | omega | (exfalso; omega))
  replace hT := Lib.hid hT
  replace hO := Lib.hid hO
  replace hL := Lib.hid hL
  subst hk
  have hB0 := Lib.hid (show Below w.heap.size w (w.alloc (.cells #[.int .i64 9, .string (S p), .string (S t), .int .i64 f, .int .i64 n, dv] 44)) from (Below.refl _ _).alloc (Nat.le_refl _) _)
  clear hr
  clear hd
  go_enter Tryd.func27, Tryd.ntmps27
  go_wp2_with fail
  refine (hW0.out _).mono ?_
  rintro e w0 ⟨rfl, rfl⟩
  go_wp2_with fail
  refine (hT.out _).mono ?_
  rintro e w0 ⟨rfl, rfl⟩
  go_wp2_with fail
  refine (hO.out _).mono ?_
  rintro e w0 ⟨rfl, rfl⟩
  go_wp2_with fail
  refine (hL.out _).mono ?_
  rintro e w0 ⟨rfl, rfl⟩
  go_wp2_with fail
  refine bodyPost_ret (v := .agg #[.int .i64 9, .string (S p), .string (S []), .int .i64 f, .int .i64 n, .slice none 0 0]) (by simp [results, Tryd.results27, go_sem] <;> rfl) rfl ?_
  exact plainRes_mk hfin.out rfl (Rd.nil _ _) ((hB0.out.alloc hB0.out.size _).alloc (by have := hB0.out.size; rw [World.size_alloc]; omega) _)
set_option maxRecDepth 100000 in
set_option maxHeartbeats 4000000 in
theorem plainr_path (k : Int) (p t : List UInt8) (f n : Int) (l : List UInt8) (dv : Value) (w : World) (hr : RdB w dv l) (hd : k = 7 → l.length ≤ 140737488355328) (x : List UInt8) (hx : Tr.word k = x) (hk : (1 ≤ k ∧ k ≤ 13) ∧ k ≠ 3 ∧ k ≠ 6 ∧ k ≠ 7 ∧ k ≠ 8 ∧ k ≠ 9 ∧ k ≠ 13) (hx1 : (x == []) = false) :
    Calls Tryd.prog 27 #[.agg #[.int .i64 k, .string (S p), .string (S t), .int .i64 f, .int .i64 n, dv]] w (PlainRes (Tr.plain ⟨k, p, t, f, n, l⟩) w) := by
  have hW0 := wordr_any k
  rw [hx] at hW0
  replace hW0 := Lib.hid hW0
  replace hx := Lib.hid hx
  have hfin := Lib.hid (show Tr.plain ⟨k, p, t, f, n, l⟩ = ⟨k, p, [], 0, 0, []⟩ by
    unfold Tr.plain
    simp only [Opr.mk.injEq, true_and]
    refine ⟨?_, ?_, ?_, ?_, ?_⟩ <;> first | rw [if_pos (by omega)] | rw [if_neg (by omega)])
  have hT := fun w => hasTo_any k w false (by constructor <;> intro h <;> first | rfl | (cases h; done) | omega | (exfalso; omega))
  have hO := fun w => hasOff_any k w false (by constructor <;> intro h <;> first | rfl | (cases h; done) | omega | (exfalso; omega))
  have hL := fun w => hasLen_any k w false (by constructor <;> intro h <;> first | rfl | (cases h; done) | omega | (exfalso; omega))
  replace hT := Lib.hid hT
  replace hO := Lib.hid hO
  replace hL := Lib.hid hL
  have e7 : (k == 7) = false := beq_eq_false_iff_ne.2 (by omega)
  have e13 : (k == 13) = false := beq_eq_false_iff_ne.2 (by omega)
  clear hk
  have hB0 := Lib.hid (show Below w.heap.size w (w.alloc (.cells #[.int .i64 k, .string (S p), .string (S t), .int .i64 f, .int .i64 n, dv] 44)) from (Below.refl _ _).alloc (Nat.le_refl _) _)
  clear hr
  clear hd
  go_enter Tryd.func27, Tryd.ntmps27
  go_wp2_with fail
  refine (hW0.out _).mono ?_
  rintro e w0 ⟨rfl, rfl⟩
  go_wp2_with fail
  refine (hT.out _).mono ?_
  rintro e w0 ⟨rfl, rfl⟩
  go_wp2_with fail
  refine (hO.out _).mono ?_
  rintro e w0 ⟨rfl, rfl⟩
  go_wp2_with fail
  refine (hL.out _).mono ?_
  rintro e w0 ⟨rfl, rfl⟩
  go_wp2_with fail
  refine bodyPost_ret (v := .agg #[.int .i64 k, .string (S p), .string (S []), .int .i64 0, .int .i64 0, .slice none 0 0]) (by simp [results, Tryd.results27, go_sem] <;> rfl) rfl ?_
  exact plainRes_mk hfin.out rfl (Rd.nil _ _) ((hB0.out.alloc hB0.out.size _).alloc (by have := hB0.out.size; rw [World.size_alloc]; omega) _)
theorem plainr_any (o : Opr) (dv : Value) (w : World) (hr : RdB w dv o.data) (hd : o.kind = 7 → o.data.length ≤ 140737488355328) :
    Calls Tryd.prog 27 #[opV o dv] w (PlainRes (Tr.plain o) w) := by
  obtain ⟨k, p, t, f, n, l⟩ := o
  by_cases hk : 1 ≤ k ∧ k ≤ 13
  · have hx1 : (Tr.word k == []) = false := by
      have : ¬ Tr.word k = [] := fun h => (word_nil k).1 h hk
      simpa using this
    by_cases h13 : k = 13
    · exact plainr_sync k p t f n l dv w hr hd _ rfl h13 hx1
    by_cases h36 : k = 3 ∨ k = 6
    · exact plainr_to k p t f n l dv w hr hd _ rfl h36 hx1
    by_cases h7 : k = 7
    · exact plainr_off k p t f n l dv w hr hd _ rfl h7 hx1
    by_cases h8 : k = 8
    · exact plainr_len k p t f n l dv w hr hd _ rfl h8 hx1
    by_cases h9 : k = 9
    · exact plainr_both k p t f n l dv w hr hd _ rfl h9 hx1
    exact plainr_path k p t f n l dv w hr hd _ rfl (by omega) hx1
  · exact plainr_none k p t f n l dv w hr hd _ rfl hk ((word_nil k).2 hk)
end Go.Proofs.YtpoongljokbgcaaDoor
