import Derived.Test.YtpoongljokbgcaaDoorTbg
import Derived.Deep.DeepCutAuto
/- The program's plain call (trace.Plain), printed by wip/tools/plain24.py. -/
namespace Go.Proofs.YtpoongljokbgcaaDoor
open Go.RowKit
theorem clone_rd (l : List UInt8) (dv : Value) (w : World) (hr : RdB w dv l) (hne : l ≠ []) (hl : l.length ≤ 140737488355328) :
    Calls Tryd.prog 58 #[dv] w fun e w' => ∃ v', e = .returned v' ∧ w'.ownsRow w.heap.size 5 1 v' l.length (l.map byteV) ∧ Below w.heap.size w w' := by
  obtain ⟨a, cap, rfl, hcap, hc⟩ := hr
  obtain ⟨c, r, rfl⟩ : ∃ c r, l = c :: r := by
    cases l with
    | nil => exact absurd rfl hne
    | cons c r => exact ⟨c, r, rfl⟩
  obtain ⟨b, o, rfl, _, _⟩ := hc 0 c rfl
  have := Tryd.bytes_Clone_at ⟨b, o, none⟩ (c :: r).length cap ((c :: r).map fun c => (c.toNat : Int)) w (by simp) hl (fun i hi => by
    obtain ⟨b', o', e', _, hcell⟩ := hc i (c :: r)[i] (List.getElem?_eq_getElem hi)
    cases e'
    have he : (⟨b, o, none⟩ : Addr).add i = ⟨b, o + i, none⟩ := by unfold Addr.add; split <;> simp_all
    rw [he, hcell, List.getD_eq_getElem?_getD, List.getElem?_map, List.getElem?_eq_getElem hi]; rfl)
  refine this.mono fun e w' ⟨v', he, hown, _, hb⟩ => ⟨v', he, ?_, hb⟩
  rw [List.map_map] at hown
  exact hown
set_option maxRecDepth 100000 in
set_option maxHeartbeats 4000000 in
theorem plain_to3 (k : Int) (p t : List UInt8) (f n : Int) (l : List UInt8) (a : Option Addr) (c : Nat) (w : World) (hG : Gl w) (hk0 : in64 k) (hr : RdB w (.slice a l.length c) l) (hd : k = 7 → l.length ≤ 140737488355328) (x : List UInt8) (hx : Tr.word k = x) (hk : k = 3) :
    Calls Tryd.prog 24 #[.agg #[.int .i64 k, .string (S p), .string (S t), .int .i64 f, .int .i64 n, .slice a l.length c]] w (PlainRes (Tr.plain ⟨k, p, t, f, n, l⟩) w) := by
  have hfin := Lib.hid (show Tr.plain ⟨k, p, t, f, n, l⟩ = ⟨k, p, t, 0, 0, []⟩ by
    unfold Tr.plain
    simp only [Opr.mk.injEq, true_and]
    refine ⟨?_, ?_, ?_, ?_, ?_⟩ <;> first | rw [if_pos (by omega)] | rw [if_neg (by omega)])
  have hW0 := fun w hG => word_any k w hG hk0.1 hk0.2
  rw [hx] at hW0
  replace hW0 := Lib.hid hW0
  replace hx := Lib.hid hx
  replace hG := Lib.hid hG
  clear hk0
  subst hk
  have hB0 := Lib.hid (show Below w.heap.size w (w.alloc (.cells #[.int .i64 3, .string (S p), .string (S t), .int .i64 f, .int .i64 n, .slice a l.length c] 44)) from (Below.refl _ _).alloc (Nat.le_refl _) _)
  clear hr hd
  go_enter Tryd.func24, Tryd.ntmps24
  go_wp2_with fail
  refine bodyPost_ret (v := .agg #[.int .i64 3, .string (S p), .string (S t), .int .i64 0, .int .i64 0, .slice none 0 0]) (by simp [results, Tryd.results24, go_sem] <;> rfl) rfl ?_
  exact plainRes_mk hfin.out rfl (Rd.nil _ _) ((hB0.out.alloc hB0.out.size _).alloc (by have := hB0.out.size; rw [World.size_alloc]; omega) _)
set_option maxRecDepth 100000 in
set_option maxHeartbeats 4000000 in
theorem plain_to6 (k : Int) (p t : List UInt8) (f n : Int) (l : List UInt8) (a : Option Addr) (c : Nat) (w : World) (hG : Gl w) (hk0 : in64 k) (hr : RdB w (.slice a l.length c) l) (hd : k = 7 → l.length ≤ 140737488355328) (x : List UInt8) (hx : Tr.word k = x) (hk : k = 6) :
    Calls Tryd.prog 24 #[.agg #[.int .i64 k, .string (S p), .string (S t), .int .i64 f, .int .i64 n, .slice a l.length c]] w (PlainRes (Tr.plain ⟨k, p, t, f, n, l⟩) w) := by
  have hfin := Lib.hid (show Tr.plain ⟨k, p, t, f, n, l⟩ = ⟨k, p, t, 0, 0, []⟩ by
    unfold Tr.plain
    simp only [Opr.mk.injEq, true_and]
    refine ⟨?_, ?_, ?_, ?_, ?_⟩ <;> first | rw [if_pos (by omega)] | rw [if_neg (by omega)])
  have hW0 := fun w hG => word_any k w hG hk0.1 hk0.2
  rw [hx] at hW0
  replace hW0 := Lib.hid hW0
  replace hx := Lib.hid hx
  replace hG := Lib.hid hG
  clear hk0
  subst hk
  have hB0 := Lib.hid (show Below w.heap.size w (w.alloc (.cells #[.int .i64 6, .string (S p), .string (S t), .int .i64 f, .int .i64 n, .slice a l.length c] 44)) from (Below.refl _ _).alloc (Nat.le_refl _) _)
  clear hr hd
  go_enter Tryd.func24, Tryd.ntmps24
  go_wp2_with fail
  refine bodyPost_ret (v := .agg #[.int .i64 6, .string (S p), .string (S t), .int .i64 0, .int .i64 0, .slice none 0 0]) (by simp [results, Tryd.results24, go_sem] <;> rfl) rfl ?_
  exact plainRes_mk hfin.out rfl (Rd.nil _ _) ((hB0.out.alloc hB0.out.size _).alloc (by have := hB0.out.size; rw [World.size_alloc]; omega) _)
set_option maxRecDepth 100000 in
set_option maxHeartbeats 4000000 in
theorem plain_len (k : Int) (p t : List UInt8) (f n : Int) (l : List UInt8) (a : Option Addr) (c : Nat) (w : World) (hG : Gl w) (hk0 : in64 k) (hr : RdB w (.slice a l.length c) l) (hd : k = 7 → l.length ≤ 140737488355328) (x : List UInt8) (hx : Tr.word k = x) (hk : k = 8) :
    Calls Tryd.prog 24 #[.agg #[.int .i64 k, .string (S p), .string (S t), .int .i64 f, .int .i64 n, .slice a l.length c]] w (PlainRes (Tr.plain ⟨k, p, t, f, n, l⟩) w) := by
  have hfin := Lib.hid (show Tr.plain ⟨k, p, t, f, n, l⟩ = ⟨k, p, [], 0, n, []⟩ by
    unfold Tr.plain
    simp only [Opr.mk.injEq, true_and]
    refine ⟨?_, ?_, ?_, ?_, ?_⟩ <;> first | rw [if_pos (by omega)] | rw [if_neg (by omega)])
  have hW0 := fun w hG => word_any k w hG hk0.1 hk0.2
  rw [hx] at hW0
  replace hW0 := Lib.hid hW0
  replace hx := Lib.hid hx
  replace hG := Lib.hid hG
  clear hk0
  subst hk
  have hB0 := Lib.hid (show Below w.heap.size w (w.alloc (.cells #[.int .i64 8, .string (S p), .string (S t), .int .i64 f, .int .i64 n, .slice a l.length c] 44)) from (Below.refl _ _).alloc (Nat.le_refl _) _)
  clear hr hd
  go_enter Tryd.func24, Tryd.ntmps24
  go_wp2_with fail
  refine bodyPost_ret (v := .agg #[.int .i64 8, .string (S p), .string (S []), .int .i64 0, .int .i64 n, .slice none 0 0]) (by simp [results, Tryd.results24, go_sem] <;> rfl) rfl ?_
  exact plainRes_mk hfin.out rfl (Rd.nil _ _) ((hB0.out.alloc hB0.out.size _).alloc (by have := hB0.out.size; rw [World.size_alloc]; omega) _)
set_option maxRecDepth 100000 in
set_option maxHeartbeats 4000000 in
theorem plain_both (k : Int) (p t : List UInt8) (f n : Int) (l : List UInt8) (a : Option Addr) (c : Nat) (w : World) (hG : Gl w) (hk0 : in64 k) (hr : RdB w (.slice a l.length c) l) (hd : k = 7 → l.length ≤ 140737488355328) (x : List UInt8) (hx : Tr.word k = x) (hk : k = 9) :
    Calls Tryd.prog 24 #[.agg #[.int .i64 k, .string (S p), .string (S t), .int .i64 f, .int .i64 n, .slice a l.length c]] w (PlainRes (Tr.plain ⟨k, p, t, f, n, l⟩) w) := by
  have hfin := Lib.hid (show Tr.plain ⟨k, p, t, f, n, l⟩ = ⟨k, p, [], f, n, []⟩ by
    unfold Tr.plain
    simp only [Opr.mk.injEq, true_and]
    refine ⟨?_, ?_, ?_, ?_, ?_⟩ <;> first | rw [if_pos (by omega)] | rw [if_neg (by omega)])
  have hW0 := fun w hG => word_any k w hG hk0.1 hk0.2
  rw [hx] at hW0
  replace hW0 := Lib.hid hW0
  replace hx := Lib.hid hx
  replace hG := Lib.hid hG
  clear hk0
  subst hk
  have hB0 := Lib.hid (show Below w.heap.size w (w.alloc (.cells #[.int .i64 9, .string (S p), .string (S t), .int .i64 f, .int .i64 n, .slice a l.length c] 44)) from (Below.refl _ _).alloc (Nat.le_refl _) _)
  clear hr hd
  go_enter Tryd.func24, Tryd.ntmps24
  go_wp2_with fail
  refine bodyPost_ret (v := .agg #[.int .i64 9, .string (S p), .string (S []), .int .i64 f, .int .i64 n, .slice none 0 0]) (by simp [results, Tryd.results24, go_sem] <;> rfl) rfl ?_
  exact plainRes_mk hfin.out rfl (Rd.nil _ _) ((hB0.out.alloc hB0.out.size _).alloc (by have := hB0.out.size; rw [World.size_alloc]; omega) _)
set_option maxRecDepth 100000 in
set_option maxHeartbeats 4000000 in
theorem plain_sync (k : Int) (p t : List UInt8) (f n : Int) (l : List UInt8) (a : Option Addr) (c : Nat) (w : World) (hG : Gl w) (hk0 : in64 k) (hr : RdB w (.slice a l.length c) l) (hd : k = 7 → l.length ≤ 140737488355328) (x : List UInt8) (hx : Tr.word k = x) (hk : k = 13) :
    Calls Tryd.prog 24 #[.agg #[.int .i64 k, .string (S p), .string (S t), .int .i64 f, .int .i64 n, .slice a l.length c]] w (PlainRes (Tr.plain ⟨k, p, t, f, n, l⟩) w) := by
  have hfin := Lib.hid (show Tr.plain ⟨k, p, t, f, n, l⟩ = ⟨k, [], [], 0, 0, []⟩ by
    unfold Tr.plain
    simp only [Opr.mk.injEq, true_and]
    refine ⟨?_, ?_, ?_, ?_, ?_⟩ <;> first | rw [if_pos (by omega)] | rw [if_neg (by omega)])
  have hW0 := fun w hG => word_any k w hG hk0.1 hk0.2
  rw [hx] at hW0
  replace hW0 := Lib.hid hW0
  replace hx := Lib.hid hx
  replace hG := Lib.hid hG
  clear hk0
  subst hk
  have hB0 := Lib.hid (show Below w.heap.size w (w.alloc (.cells #[.int .i64 13, .string (S p), .string (S t), .int .i64 f, .int .i64 n, .slice a l.length c] 44)) from (Below.refl _ _).alloc (Nat.le_refl _) _)
  clear hr hd
  go_enter Tryd.func24, Tryd.ntmps24
  go_wp2_with fail
  refine bodyPost_ret (v := .agg #[.int .i64 13, .string (S []), .string (S []), .int .i64 0, .int .i64 0, .slice none 0 0]) (by simp [results, Tryd.results24, go_sem] <;> rfl) rfl ?_
  exact plainRes_mk hfin.out rfl (Rd.nil _ _) ((hB0.out.alloc hB0.out.size _).alloc (by have := hB0.out.size; rw [World.size_alloc]; omega) _)
set_option maxRecDepth 100000 in
set_option maxHeartbeats 4000000 in
theorem plain_nodata (k : Int) (p t : List UInt8) (f n : Int) (l : List UInt8) (a : Option Addr) (c : Nat) (w : World) (hG : Gl w) (hk0 : in64 k) (hr : RdB w (.slice a l.length c) l) (hd : k = 7 → l.length ≤ 140737488355328) (x : List UInt8) (hx : Tr.word k = x) (hk : k = 7) (hl : l = []) :
    Calls Tryd.prog 24 #[.agg #[.int .i64 k, .string (S p), .string (S t), .int .i64 f, .int .i64 n, .slice a l.length c]] w (PlainRes (Tr.plain ⟨k, p, t, f, n, l⟩) w) := by
  have hfin := Lib.hid (show Tr.plain ⟨k, p, t, f, n, l⟩ = ⟨k, p, [], f, 0, []⟩ by
    unfold Tr.plain
    simp only [Opr.mk.injEq, true_and]
    refine ⟨?_, ?_, ?_, ?_, ?_⟩ <;> first | (rw [if_pos (by omega)]; done) | (rw [if_pos (by omega)]; exact hl) | rw [if_neg (by omega)])
  have hW0 := fun w hG => word_any k w hG hk0.1 hk0.2
  rw [hx] at hW0
  replace hW0 := Lib.hid hW0
  replace hx := Lib.hid hx
  replace hG := Lib.hid hG
  clear hk0
  subst hk
  subst hl
  have hB0 := Lib.hid (show Below w.heap.size w (w.alloc (.cells #[.int .i64 7, .string (S p), .string (S t), .int .i64 f, .int .i64 n, .slice a 0 c] 44)) from (Below.refl _ _).alloc (Nat.le_refl _) _)
  clear hr hd
  go_enter Tryd.func24, Tryd.ntmps24
  go_wp2_with fail
  refine bodyPost_ret (v := .agg #[.int .i64 7, .string (S p), .string (S []), .int .i64 f, .int .i64 0, .slice none 0 0]) (by simp [results, Tryd.results24, go_sem] <;> rfl) rfl ?_
  exact plainRes_mk hfin.out rfl (Rd.nil _ _) ((hB0.out.alloc hB0.out.size _).alloc (by have := hB0.out.size; rw [World.size_alloc]; omega) _)
set_option maxRecDepth 100000 in
set_option maxHeartbeats 4000000 in
theorem plain_data (k : Int) (p t : List UInt8) (f n : Int) (l : List UInt8) (a : Option Addr) (c : Nat) (w : World) (hG : Gl w) (hk0 : in64 k) (hr : RdB w (.slice a l.length c) l) (hd : k = 7 → l.length ≤ 140737488355328) (x : List UInt8) (hx : Tr.word k = x) (hk : k = 7) (hl : l ≠ []) :
    Calls Tryd.prog 24 #[.agg #[.int .i64 k, .string (S p), .string (S t), .int .i64 f, .int .i64 n, .slice a l.length c]] w (PlainRes (Tr.plain ⟨k, p, t, f, n, l⟩) w) := by
  have hfin := Lib.hid (show Tr.plain ⟨k, p, t, f, n, l⟩ = ⟨k, p, [], f, 0, l⟩ by
    unfold Tr.plain
    simp only [Opr.mk.injEq, true_and]
    refine ⟨?_, ?_, ?_, ?_, ?_⟩ <;> first | rw [if_pos (by omega)] | rw [if_neg (by omega)])
  have hW0 := fun w hG => word_any k w hG hk0.1 hk0.2
  rw [hx] at hW0
  replace hW0 := Lib.hid hW0
  replace hx := Lib.hid hx
  replace hG := Lib.hid hG
  clear hk0
  subst hk
  have hB0 := Lib.hid (show Below w.heap.size w (w.alloc (.cells #[.int .i64 7, .string (S p), .string (S t), .int .i64 f, .int .i64 n, .slice a l.length c] 44)) from (Below.refl _ _).alloc (Nat.le_refl _) _)
  have hd7 := hd rfl
  clear hd
  have hlp : (0 : Int) < (l.length : Int) := by cases l with
    | nil => exact absurd rfl hl
    | cons c r => rw [List.length_cons]; omega
  have hC := Lib.hid (fun w hr => clone_rd l (.slice a l.length c) w hr hl hd7)
  clear hl
  replace hr := Lib.hid hr
  go_enter Tryd.func24, Tryd.ntmps24
  go_upto_region 12 with fail
  have hw2 : Below w.heap.size w (((w.alloc (.cells #[.int .i64 7, .string (S p), .string (S t), .int .i64 f, .int .i64 n, .slice a l.length c] 44)).alloc (.cells #[.int .i64 0, .string ⟨#[]⟩, .string ⟨#[]⟩, .int .i64 0, .int .i64 0, .slice none 0 0] 44)).alloc (.cells #[.int .i64 7, .string (S p), .string ⟨#[]⟩, .int .i64 f, .int .i64 0, .slice none 0 0] 44)) := (hB0.out.alloc hB0.out.size _).alloc (by have := hB0.out.size; rw [World.size_alloc]; omega) _
  have hX1 := ((Box.new w 44 #[.int .i64 7, .string (S p), .string (S t), .int .i64 f, .int .i64 n, .slice a l.length c]).alloc (.cells #[.int .i64 0, .string ⟨#[]⟩, .string ⟨#[]⟩, .int .i64 0, .int .i64 0, .slice none 0 0] 44)).alloc (.cells #[.int .i64 7, .string (S p), .string ⟨#[]⟩, .int .i64 f, .int .i64 0, .slice none 0 0] 44)
  have hX2 := (Box.new (w.alloc (.cells #[.int .i64 7, .string (S p), .string (S t), .int .i64 f, .int .i64 n, .slice a l.length c] 44)) 44 #[.int .i64 0, .string ⟨#[]⟩, .string ⟨#[]⟩, .int .i64 0, .int .i64 0, .slice none 0 0]).alloc (.cells #[.int .i64 7, .string (S p), .string ⟨#[]⟩, .int .i64 f, .int .i64 0, .slice none 0 0] 44)
  have hX3 := Box.new ((w.alloc (.cells #[.int .i64 7, .string (S p), .string (S t), .int .i64 f, .int .i64 n, .slice a l.length c] 44)).alloc (.cells #[.int .i64 0, .string ⟨#[]⟩, .string ⟨#[]⟩, .int .i64 0, .int .i64 0, .slice none 0 0] 44)) 44 #[.int .i64 7, .string (S p), .string ⟨#[]⟩, .int .i64 f, .int .i64 0, .slice none 0 0]
  have hz : w.heap.size + 2 < (((w.alloc (.cells #[.int .i64 7, .string (S p), .string (S t), .int .i64 f, .int .i64 n, .slice a l.length c] 44)).alloc (.cells #[.int .i64 0, .string ⟨#[]⟩, .string ⟨#[]⟩, .int .i64 0, .int .i64 0, .slice none 0 0] 44)).alloc (.cells #[.int .i64 7, .string (S p), .string ⟨#[]⟩, .int .i64 f, .int .i64 0, .slice none 0 0] 44)).heap.size := by simp only [World.size_alloc]; omega
  simp only [World.size_alloc] at hX2 hX3
  generalize (((w.alloc (.cells #[.int .i64 7, .string (S p), .string (S t), .int .i64 f, .int .i64 n, .slice a l.length c] 44)).alloc (.cells #[.int .i64 0, .string ⟨#[]⟩, .string ⟨#[]⟩, .int .i64 0, .int .i64 0, .slice none 0 0] 44)).alloc (.cells #[.int .i64 7, .string (S p), .string ⟨#[]⟩, .int .i64 f, .int .i64 0, .slice none 0 0] 44)) = W2 at hw2 hX1 hX2 hX3 hz ⊢
  have hr2 := Lib.hid (hr.out.below hw2)
  have a5 := hX1.get 5 _ rfl
  replace hw2 := Lib.hid hw2
  replace hX1 := Lib.hid hX1
  replace hX2 := Lib.hid hX2
  replace hX3 := Lib.hid hX3
  go_wp2_with fail
  refine (hC.out _ hr2.out).mono ?_
  rintro e w1 ⟨vd, rfl, hown, hb1⟩
  have bX2 := hX2.out.below hb1
  have bX3 := hX3.out.below hb1
  obtain ⟨ad, cp, rfl⟩ := (Rd.of_own (enc := byteV) (xs := l) hown).len
  replace hown := Lib.hid hown
  have g0 := bX3.get 0 _ rfl
  have g1 := bX3.get 1 _ rfl
  have g2 := bX3.get 2 _ rfl
  have g3 := bX3.get 3 _ rfl
  have g4 := bX3.get 4 _ rfl
  have g5 := bX3.get 5 _ rfl
  have g6 := bX3.frozen 5
  have g7 := bX3.frozen 1
  have d0 := bX2.get 0 _ rfl
  have d1 := bX2.get 1 _ rfl
  have d2 := bX2.get 2 _ rfl
  have d3 := bX2.get 3 _ rfl
  have d4 := bX2.get 4 _ rfl
  have d5 := bX2.get 5 _ rfl
  have k0 := bX2.frozen 0
  have k1 := bX2.frozen 1
  have k2 := bX2.frozen 2
  have k3 := bX2.frozen 3
  have k4 := bX2.frozen 4
  have k5 := bX2.frozen 5
  replace bX2 := Lib.hid bX2
  replace bX3 := Lib.hid bX3
  replace hb1 := Lib.hid hb1
  go_wp2_with fail
  have W1 : Below w.heap.size w w1 := hw2.out.trans (hb1.out.mono hw2.out.size)
  have W3 := W1.setCell (p := ⟨w.heap.size + 1 + 1, 5, none⟩) (by show w.heap.size ≤ w.heap.size + 1 + 1; omega) (.slice ad l.length cp)
  obtain ⟨hp6, hb6⟩ := put6 (bX2.out.setFar ⟨w.heap.size + 1 + 1, 5, none⟩ (.slice ad l.length cp) (by simp)) (.int .i64 7) (.string (S p)) (.string ⟨#[]⟩) (.int .i64 f) (.int .i64 0) (.slice ad l.length cp) W3 (by omega)
  refine bodyPost_ret (res24 hp6 rfl) rfl ?_
  refine plainRes_mk hfin.out rfl (Rd.of_own (B := W2.heap.size) (e := 5) (own_put6 (own_setFar hown.out ?_ _) ?_ _ _ _ _ _ _)) hb6
  · show w.heap.size + 1 + 1 < W2.heap.size; omega
  · omega
set_option maxRecDepth 100000 in
set_option maxHeartbeats 4000000 in
theorem plain_none (k : Int) (p t : List UInt8) (f n : Int) (l : List UInt8) (a : Option Addr) (c : Nat) (w : World) (hG : Gl w) (hk0 : in64 k) (hr : RdB w (.slice a l.length c) l) (hd : k = 7 → l.length ≤ 140737488355328) (x : List UInt8) (hx : Tr.word k = x) (hk : ¬ (1 ≤ k ∧ k ≤ 13)) (hx0 : x = []) :
    Calls Tryd.prog 24 #[.agg #[.int .i64 k, .string (S p), .string (S t), .int .i64 f, .int .i64 n, .slice a l.length c]] w (PlainRes (Tr.plain ⟨k, p, t, f, n, l⟩) w) := by
  have hfin := Lib.hid (show Tr.plain ⟨k, p, t, f, n, l⟩ = ⟨k, [], [], 0, 0, []⟩ by
    unfold Tr.plain
    simp only [Opr.mk.injEq, true_and]
    refine ⟨?_, ?_, ?_, ?_, ?_⟩ <;> first | rw [if_pos (by omega)] | rw [if_neg (by omega)])
  have hW0 := fun w hG => word_any k w hG hk0.1 hk0.2
  rw [hx] at hW0
  replace hW0 := Lib.hid hW0
  replace hx := Lib.hid hx
  replace hG := Lib.hid hG
  clear hk0
  have e3 : (k == 3) = false := beq_eq_false_iff_ne.2 (by omega)
  have e6 : (k == 6) = false := beq_eq_false_iff_ne.2 (by omega)
  have e7 : (k == 7) = false := beq_eq_false_iff_ne.2 (by omega)
  have e8 : (k == 8) = false := beq_eq_false_iff_ne.2 (by omega)
  have e9 : (k == 9) = false := beq_eq_false_iff_ne.2 (by omega)
  have e13 : (k == 13) = false := beq_eq_false_iff_ne.2 (by omega)
  subst hx0
  clear hk
  have hB0 := Lib.hid (show Below w.heap.size w (w.alloc (.cells #[.int .i64 k, .string (S p), .string (S t), .int .i64 f, .int .i64 n, .slice a l.length c] 44)) from (Below.refl _ _).alloc (Nat.le_refl _) _)
  clear hr hd
  go_enter Tryd.func24, Tryd.ntmps24
  go_upto_region 16 with fail
  have hw2 : Below w.heap.size w (((w.alloc (.cells #[.int .i64 k, .string (S p), .string (S t), .int .i64 f, .int .i64 n, .slice a l.length c] 44)).alloc (.cells #[.int .i64 0, .string ⟨#[]⟩, .string ⟨#[]⟩, .int .i64 0, .int .i64 0, .slice none 0 0] 44)).alloc (.cells #[.int .i64 k, .string (S p), .string ⟨#[]⟩, .int .i64 0, .int .i64 0, .slice none 0 0] 44)) := (hB0.out.alloc hB0.out.size _).alloc (by have := hB0.out.size; rw [World.size_alloc]; omega) _
  have hX1 := ((Box.new w 44 #[.int .i64 k, .string (S p), .string (S t), .int .i64 f, .int .i64 n, .slice a l.length c]).alloc (.cells #[.int .i64 0, .string ⟨#[]⟩, .string ⟨#[]⟩, .int .i64 0, .int .i64 0, .slice none 0 0] 44)).alloc (.cells #[.int .i64 k, .string (S p), .string ⟨#[]⟩, .int .i64 0, .int .i64 0, .slice none 0 0] 44)
  have hX2 := (Box.new (w.alloc (.cells #[.int .i64 k, .string (S p), .string (S t), .int .i64 f, .int .i64 n, .slice a l.length c] 44)) 44 #[.int .i64 0, .string ⟨#[]⟩, .string ⟨#[]⟩, .int .i64 0, .int .i64 0, .slice none 0 0]).alloc (.cells #[.int .i64 k, .string (S p), .string ⟨#[]⟩, .int .i64 0, .int .i64 0, .slice none 0 0] 44)
  have hX3 := Box.new ((w.alloc (.cells #[.int .i64 k, .string (S p), .string (S t), .int .i64 f, .int .i64 n, .slice a l.length c] 44)).alloc (.cells #[.int .i64 0, .string ⟨#[]⟩, .string ⟨#[]⟩, .int .i64 0, .int .i64 0, .slice none 0 0] 44)) 44 #[.int .i64 k, .string (S p), .string ⟨#[]⟩, .int .i64 0, .int .i64 0, .slice none 0 0]
  have hz : w.heap.size + 2 < (((w.alloc (.cells #[.int .i64 k, .string (S p), .string (S t), .int .i64 f, .int .i64 n, .slice a l.length c] 44)).alloc (.cells #[.int .i64 0, .string ⟨#[]⟩, .string ⟨#[]⟩, .int .i64 0, .int .i64 0, .slice none 0 0] 44)).alloc (.cells #[.int .i64 k, .string (S p), .string ⟨#[]⟩, .int .i64 0, .int .i64 0, .slice none 0 0] 44)).heap.size := by simp only [World.size_alloc]; omega
  simp only [World.size_alloc] at hX2 hX3
  generalize (((w.alloc (.cells #[.int .i64 k, .string (S p), .string (S t), .int .i64 f, .int .i64 n, .slice a l.length c] 44)).alloc (.cells #[.int .i64 0, .string ⟨#[]⟩, .string ⟨#[]⟩, .int .i64 0, .int .i64 0, .slice none 0 0] 44)).alloc (.cells #[.int .i64 k, .string (S p), .string ⟨#[]⟩, .int .i64 0, .int .i64 0, .slice none 0 0] 44)) = W2 at hw2 hX1 hX2 hX3 hz ⊢
  have a0 := hX1.get 0 _ rfl
  have hG2 := Lib.hid (hG.out.below hw2)
  replace hw2 := Lib.hid hw2
  replace hX1 := Lib.hid hX1
  replace hX2 := Lib.hid hX2
  replace hX3 := Lib.hid hX3
  go_wp2_with fail
  refine (hW0.out _ hG2.out).mono ?_
  rintro e w1 ⟨rfl, hb1⟩
  have bX2 := hX2.out.below hb1
  have bX3 := hX3.out.below hb1
  have g0 := bX3.get 0 _ rfl
  have g1 := bX3.get 1 _ rfl
  have g2 := bX3.get 2 _ rfl
  have g3 := bX3.get 3 _ rfl
  have g4 := bX3.get 4 _ rfl
  have g5 := bX3.get 5 _ rfl
  have g6 := bX3.frozen 5
  have g7 := bX3.frozen 1
  have d0 := bX2.get 0 _ rfl
  have d1 := bX2.get 1 _ rfl
  have d2 := bX2.get 2 _ rfl
  have d3 := bX2.get 3 _ rfl
  have d4 := bX2.get 4 _ rfl
  have d5 := bX2.get 5 _ rfl
  have k0 := bX2.frozen 0
  have k1 := bX2.frozen 1
  have k2 := bX2.frozen 2
  have k3 := bX2.frozen 3
  have k4 := bX2.frozen 4
  have k5 := bX2.frozen 5
  replace bX2 := Lib.hid bX2
  replace bX3 := Lib.hid bX3
  replace hb1 := Lib.hid hb1
  go_wp2_with fail
  have W1 : Below w.heap.size w w1 := hw2.out.trans (hb1.out.mono hw2.out.size)
  have W3 := W1.setCell (p := ⟨w.heap.size + 1 + 1, 1, none⟩) (by show w.heap.size ≤ w.heap.size + 1 + 1; omega) (.string ⟨#[]⟩)
  obtain ⟨hp6, hb6⟩ := put6 (bX2.out.setFar ⟨w.heap.size + 1 + 1, 1, none⟩ (.string ⟨#[]⟩) (by simp)) (.int .i64 k) (.string ⟨#[]⟩) (.string ⟨#[]⟩) (.int .i64 0) (.int .i64 0) (.slice none 0 0) W3 (by omega)
  refine bodyPost_ret (res24 hp6 rfl) rfl ?_
  exact plainRes_mk hfin.out rfl (Rd.nil _ _) hb6
set_option maxRecDepth 100000 in
set_option maxHeartbeats 4000000 in
theorem plain_path (k : Int) (p t : List UInt8) (f n : Int) (l : List UInt8) (a : Option Addr) (c : Nat) (w : World) (hG : Gl w) (hk0 : in64 k) (hr : RdB w (.slice a l.length c) l) (hd : k = 7 → l.length ≤ 140737488355328) (x : List UInt8) (hx : Tr.word k = x) (hk : (1 ≤ k ∧ k ≤ 13) ∧ k ≠ 3 ∧ k ≠ 6 ∧ k ≠ 7 ∧ k ≠ 8 ∧ k ≠ 9 ∧ k ≠ 13) (hx1 : (x == []) = false) :
    Calls Tryd.prog 24 #[.agg #[.int .i64 k, .string (S p), .string (S t), .int .i64 f, .int .i64 n, .slice a l.length c]] w (PlainRes (Tr.plain ⟨k, p, t, f, n, l⟩) w) := by
  have hfin := Lib.hid (show Tr.plain ⟨k, p, t, f, n, l⟩ = ⟨k, p, [], 0, 0, []⟩ by
    unfold Tr.plain
    simp only [Opr.mk.injEq, true_and]
    refine ⟨?_, ?_, ?_, ?_, ?_⟩ <;> first | rw [if_pos (by omega)] | rw [if_neg (by omega)])
  have hW0 := fun w hG => word_any k w hG hk0.1 hk0.2
  rw [hx] at hW0
  replace hW0 := Lib.hid hW0
  replace hx := Lib.hid hx
  replace hG := Lib.hid hG
  clear hk0
  have e3 : (k == 3) = false := beq_eq_false_iff_ne.2 (by omega)
  have e6 : (k == 6) = false := beq_eq_false_iff_ne.2 (by omega)
  have e7 : (k == 7) = false := beq_eq_false_iff_ne.2 (by omega)
  have e8 : (k == 8) = false := beq_eq_false_iff_ne.2 (by omega)
  have e9 : (k == 9) = false := beq_eq_false_iff_ne.2 (by omega)
  have e13 : (k == 13) = false := beq_eq_false_iff_ne.2 (by omega)
  clear hk
  have hB0 := Lib.hid (show Below w.heap.size w (w.alloc (.cells #[.int .i64 k, .string (S p), .string (S t), .int .i64 f, .int .i64 n, .slice a l.length c] 44)) from (Below.refl _ _).alloc (Nat.le_refl _) _)
  clear hr hd
  go_enter Tryd.func24, Tryd.ntmps24
  go_upto_region 16 with fail
  have hw2 : Below w.heap.size w (((w.alloc (.cells #[.int .i64 k, .string (S p), .string (S t), .int .i64 f, .int .i64 n, .slice a l.length c] 44)).alloc (.cells #[.int .i64 0, .string ⟨#[]⟩, .string ⟨#[]⟩, .int .i64 0, .int .i64 0, .slice none 0 0] 44)).alloc (.cells #[.int .i64 k, .string (S p), .string ⟨#[]⟩, .int .i64 0, .int .i64 0, .slice none 0 0] 44)) := (hB0.out.alloc hB0.out.size _).alloc (by have := hB0.out.size; rw [World.size_alloc]; omega) _
  have hX1 := ((Box.new w 44 #[.int .i64 k, .string (S p), .string (S t), .int .i64 f, .int .i64 n, .slice a l.length c]).alloc (.cells #[.int .i64 0, .string ⟨#[]⟩, .string ⟨#[]⟩, .int .i64 0, .int .i64 0, .slice none 0 0] 44)).alloc (.cells #[.int .i64 k, .string (S p), .string ⟨#[]⟩, .int .i64 0, .int .i64 0, .slice none 0 0] 44)
  have hX2 := (Box.new (w.alloc (.cells #[.int .i64 k, .string (S p), .string (S t), .int .i64 f, .int .i64 n, .slice a l.length c] 44)) 44 #[.int .i64 0, .string ⟨#[]⟩, .string ⟨#[]⟩, .int .i64 0, .int .i64 0, .slice none 0 0]).alloc (.cells #[.int .i64 k, .string (S p), .string ⟨#[]⟩, .int .i64 0, .int .i64 0, .slice none 0 0] 44)
  have hX3 := Box.new ((w.alloc (.cells #[.int .i64 k, .string (S p), .string (S t), .int .i64 f, .int .i64 n, .slice a l.length c] 44)).alloc (.cells #[.int .i64 0, .string ⟨#[]⟩, .string ⟨#[]⟩, .int .i64 0, .int .i64 0, .slice none 0 0] 44)) 44 #[.int .i64 k, .string (S p), .string ⟨#[]⟩, .int .i64 0, .int .i64 0, .slice none 0 0]
  have hz : w.heap.size + 2 < (((w.alloc (.cells #[.int .i64 k, .string (S p), .string (S t), .int .i64 f, .int .i64 n, .slice a l.length c] 44)).alloc (.cells #[.int .i64 0, .string ⟨#[]⟩, .string ⟨#[]⟩, .int .i64 0, .int .i64 0, .slice none 0 0] 44)).alloc (.cells #[.int .i64 k, .string (S p), .string ⟨#[]⟩, .int .i64 0, .int .i64 0, .slice none 0 0] 44)).heap.size := by simp only [World.size_alloc]; omega
  simp only [World.size_alloc] at hX2 hX3
  generalize (((w.alloc (.cells #[.int .i64 k, .string (S p), .string (S t), .int .i64 f, .int .i64 n, .slice a l.length c] 44)).alloc (.cells #[.int .i64 0, .string ⟨#[]⟩, .string ⟨#[]⟩, .int .i64 0, .int .i64 0, .slice none 0 0] 44)).alloc (.cells #[.int .i64 k, .string (S p), .string ⟨#[]⟩, .int .i64 0, .int .i64 0, .slice none 0 0] 44)) = W2 at hw2 hX1 hX2 hX3 hz ⊢
  have a0 := hX1.get 0 _ rfl
  have hG2 := Lib.hid (hG.out.below hw2)
  replace hw2 := Lib.hid hw2
  replace hX1 := Lib.hid hX1
  replace hX2 := Lib.hid hX2
  replace hX3 := Lib.hid hX3
  go_wp2_with fail
  refine (hW0.out _ hG2.out).mono ?_
  rintro e w1 ⟨rfl, hb1⟩
  have bX2 := hX2.out.below hb1
  have bX3 := hX3.out.below hb1
  have g0 := bX3.get 0 _ rfl
  have g1 := bX3.get 1 _ rfl
  have g2 := bX3.get 2 _ rfl
  have g3 := bX3.get 3 _ rfl
  have g4 := bX3.get 4 _ rfl
  have g5 := bX3.get 5 _ rfl
  have g6 := bX3.frozen 5
  have g7 := bX3.frozen 1
  have d0 := bX2.get 0 _ rfl
  have d1 := bX2.get 1 _ rfl
  have d2 := bX2.get 2 _ rfl
  have d3 := bX2.get 3 _ rfl
  have d4 := bX2.get 4 _ rfl
  have d5 := bX2.get 5 _ rfl
  have k0 := bX2.frozen 0
  have k1 := bX2.frozen 1
  have k2 := bX2.frozen 2
  have k3 := bX2.frozen 3
  have k4 := bX2.frozen 4
  have k5 := bX2.frozen 5
  replace bX2 := Lib.hid bX2
  replace bX3 := Lib.hid bX3
  replace hb1 := Lib.hid hb1
  go_wp2_with fail
  have W1 : Below w.heap.size w w1 := hw2.out.trans (hb1.out.mono hw2.out.size)
  obtain ⟨hp6, hb6⟩ := put6 bX2.out (.int .i64 k) (.string (S p)) (.string ⟨#[]⟩) (.int .i64 0) (.int .i64 0) (.slice none 0 0) W1 (by omega)
  refine bodyPost_ret (res24 hp6 rfl) rfl ?_
  exact plainRes_mk hfin.out rfl (Rd.nil _ _) hb6
theorem plain_any (o : Opr) (dv : Value) (w : World) (hG : Gl w) (ho : in64 o.kind) (hr : RdB w dv o.data) (hd : o.kind = 7 → o.data.length ≤ 140737488355328) :
    Calls Tryd.prog 24 #[opV o dv] w (PlainRes (Tr.plain o) w) := by
  obtain ⟨k, p, t, f, n, l⟩ := o
  obtain ⟨a, c, rfl⟩ := hr.len
  by_cases hk : 1 ≤ k ∧ k ≤ 13
  · by_cases h13 : k = 13
    · exact plain_sync k p t f n l a c w hG ho hr hd _ rfl h13
    by_cases h3 : k = 3
    · exact plain_to3 k p t f n l a c w hG ho hr hd _ rfl h3
    by_cases h6 : k = 6
    · exact plain_to6 k p t f n l a c w hG ho hr hd _ rfl h6
    by_cases h7 : k = 7
    · by_cases hl : l = []
      · exact plain_nodata k p t f n l a c w hG ho hr hd _ rfl h7 hl
      · exact plain_data k p t f n l a c w hG ho hr hd _ rfl h7 hl
    by_cases h8 : k = 8
    · exact plain_len k p t f n l a c w hG ho hr hd _ rfl h8
    by_cases h9 : k = 9
    · exact plain_both k p t f n l a c w hG ho hr hd _ rfl h9
    have hx1 : (Tr.word k == []) = false := by
      have : ¬ Tr.word k = [] := fun h => (word_nil k).1 h hk
      simpa using this
    exact plain_path k p t f n l a c w hG ho hr hd _ rfl (by omega) hx1
  · exact plain_none k p t f n l a c w hG ho hr hd _ rfl hk ((word_nil k).2 hk)
end Go.Proofs.YtpoongljokbgcaaDoor
