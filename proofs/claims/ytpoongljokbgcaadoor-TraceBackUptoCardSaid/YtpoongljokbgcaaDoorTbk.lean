import Derived.Test.YtpoongljokbgcaaDoorTbj
import Derived.Test.YtpoongljokbgcaaDoorTbb
import Derived.Test.YtpoongljokbgcaaDoorTbe
import Derived.Lib.ItoaLen
/- The reference's line of a call (slipwayref27.Print), printed by wip/tools/print25.py. -/
namespace Go.Proofs.YtpoongljokbgcaaDoor
open Go.RowKit
theorem c32 : (⟨#[32]⟩ : ByteArray) = S [32] := rfl
theorem textNum_mk {r : List UInt8 × Int} {x : List UInt8} {n : Int} {w : World} {e : Ending} {w' : World} (h : r = (x, n)) (he : e = .returned (.tuple #[.string (S x), .int .i64 n])) (hb : Below w.heap.size w w') : TextNum r w e w' := by
  subst h; exact ⟨he, hb⟩
theorem ret_text {a b : List UInt8} {n : Int} (h : a = b) : Ending.returned (.tuple #[.string (S a), .int .i64 n]) = .returned (.tuple #[.string (S b), .int .i64 n]) := by rw [h]
attribute [local go_sem] c32
set_option maxRecDepth 100000 in
set_option maxHeartbeats 4000000 in
theorem printr_to (k : Int) (p t : List UInt8) (f n : Int) (l : List UInt8) (dv : Value) (w : World) (hP : Pw w) (hf : in64 f) (hn : in64 n) (hp : p.length ≤ 4000000) (ht : t.length ≤ 4000000)
    (hr : RdB w dv l) (hk : k = 3 ∨ k = 6) (hne : ¬ Tr.word k = []) (hlong : ¬ (k = 7 ∧ 4096 < l.length)) :
    Calls Tryd.prog 25 #[.agg #[.int .i64 k, .string (S p), .string (S t), .int .i64 f, .int .i64 n, dv]] w (TextNum (Tr.print ⟨k, p, t, f, n, l⟩) w) := by
  obtain ⟨x, hx⟩ : ∃ x, Tr.word k = x := ⟨_, rfl⟩
  have hx8 : x.length ≤ 8 := by rw [← hx]; exact Tr.word_len k
  have hW0 := wordr_any k
  rw [hx] at hW0 hne
  replace hW0 := Lib.hid hW0
  have hX := Lib.hid (Box.new w 44 #[.int .i64 k, .string (S p), .string (S t), .int .i64 f, .int .i64 n, dv])
  have hB0 := Lib.hid (show Below w.heap.size w (w.alloc (.cells #[.int .i64 k, .string (S p), .string (S t), .int .i64 f, .int .i64 n, dv] 44)) from (Below.refl _ _).alloc (Nat.le_refl _) _)
  have hT := fun w => hasTo_any k w true (by constructor <;> intro h <;> first | rfl | (cases h; done) | omega | (exfalso; omega))
  have hO := fun w => hasOff_any k w false (by constructor <;> intro h <;> first | rfl | (cases h; done) | omega | (exfalso; omega))
  have hL := fun w => hasLen_any k w false (by constructor <;> intro h <;> first | rfl | (cases h; done) | omega | (exfalso; omega))
  replace hT := Lib.hid hT
  replace hO := Lib.hid hO
  replace hL := Lib.hid hL
  replace hf := Lib.hid hf
  replace hn := Lib.hid hn
  replace hP := Lib.hid hP
  replace hr := Lib.hid hr
  obtain ⟨q, hq⟩ : ∃ q, Tr.quo p = q := ⟨_, rfl⟩
  have hql : q.length ≤ 12000001 := by rw [← hq]; have := Tr.quo_len p; omega
  have hQ := fun w => quoter_any p w (by omega)
  rw [hq] at hQ
  replace hQ := Lib.hid hQ
  obtain ⟨u, hu⟩ : ∃ u, Tr.quo t = u := ⟨_, rfl⟩
  have hul : u.length ≤ 12000001 := by rw [← hu]; have := Tr.quo_len t; omega
  have hU := fun w => quoter_any t w (by omega)
  rw [hu] at hU
  replace hU := Lib.hid hU
  have hfin : Tr.print ⟨k, p, t, f, n, l⟩ = (Lib.join (x :: [q, u]) [32], 0) := by
    unfold Tr.print Tr.fields
    simp only [hx]
    rw [if_neg hne, if_neg hlong]
    simp [*]
  replace hq := Lib.hid hq
  replace hu := Lib.hid hu
  replace hfin := Lib.hid hfin
  have hx1 : (x == []) = false := by simpa using hne
  have hl : ∃ a cap, dv = .slice a l.length cap := hr.out.len
  obtain ⟨av, cap, rfl⟩ := hl
  clear hne hlong
  replace hx := Lib.hid hx
  have e7 : (k == 7) = false := beq_eq_false_iff_ne.2 (by omega)
  have e13 : (k != 13) = true := by rw [bne_iff_ne]; omega
  clear hk
  go_enter Tryd.func25, Tryd.ntmps25
  go_wp2_with fail
  refine (hW0.out _).mono ?_
  rintro e w0 ⟨rfl, rfl⟩
  go_wp2_with fail
  refine (hQ.out _).mono ?_
  rintro e w1 ⟨rfl, hb1⟩
  have hB1 := Lib.hid (hB0.out.trans (hb1.mono hB0.out.size))
  have hX1 := Lib.hid (hX.out.below hb1)
  clear hb1
  have c1_0 := hX1.out.get 0 _ rfl
  have c1_1 := hX1.out.get 1 _ rfl
  have c1_2 := hX1.out.get 2 _ rfl
  have c1_3 := hX1.out.get 3 _ rfl
  have c1_4 := hX1.out.get 4 _ rfl
  have c1_5 := hX1.out.get 5 _ rfl
  go_wp2_with fail
  refine (hT.out _).mono ?_
  rintro e w0 ⟨rfl, rfl⟩
  go_wp2_with fail
  refine (hU.out _).mono ?_
  rintro e w2 ⟨rfl, hb2⟩
  have hB2 := Lib.hid (hB1.out.trans (hb2.mono hB1.out.size))
  have hX2 := Lib.hid (hX1.out.below hb2)
  clear hb2
  have c2_0 := hX2.out.get 0 _ rfl
  have c2_1 := hX2.out.get 1 _ rfl
  have c2_2 := hX2.out.get 2 _ rfl
  have c2_3 := hX2.out.get 3 _ rfl
  have c2_4 := hX2.out.get 4 _ rfl
  have c2_5 := hX2.out.get 5 _ rfl
  go_wp2_with fail
  refine (hO.out _).mono ?_
  rintro e w0 ⟨rfl, rfl⟩
  go_wp2_with fail
  refine (hL.out _).mono ?_
  rintro e w0 ⟨rfl, rfl⟩
  go_wp2_with fail
  go_ret2
  exact textNum_mk hfin.out (ret_text (by simp [Lib.join])) hB2.out
set_option maxRecDepth 100000 in
set_option maxHeartbeats 4000000 in
theorem printr_off (k : Int) (p t : List UInt8) (f n : Int) (l : List UInt8) (dv : Value) (w : World) (hP : Pw w) (hf : in64 f) (hn : in64 n) (hp : p.length ≤ 4000000) (ht : t.length ≤ 4000000)
    (hr : RdB w dv l) (hk : k = 7) (hne : ¬ Tr.word k = []) (hlong : ¬ (k = 7 ∧ 4096 < l.length)) :
    Calls Tryd.prog 25 #[.agg #[.int .i64 k, .string (S p), .string (S t), .int .i64 f, .int .i64 n, dv]] w (TextNum (Tr.print ⟨k, p, t, f, n, l⟩) w) := by
  obtain ⟨x, hx⟩ : ∃ x, Tr.word k = x := ⟨_, rfl⟩
  have hx8 : x.length ≤ 8 := by rw [← hx]; exact Tr.word_len k
  have hW0 := wordr_any k
  rw [hx] at hW0 hne
  replace hW0 := Lib.hid hW0
  have hX := Lib.hid (Box.new w 44 #[.int .i64 k, .string (S p), .string (S t), .int .i64 f, .int .i64 n, dv])
  have hB0 := Lib.hid (show Below w.heap.size w (w.alloc (.cells #[.int .i64 k, .string (S p), .string (S t), .int .i64 f, .int .i64 n, dv] 44)) from (Below.refl _ _).alloc (Nat.le_refl _) _)
  have hT := fun w => hasTo_any k w false (by constructor <;> intro h <;> first | rfl | (cases h; done) | omega | (exfalso; omega))
  have hO := fun w => hasOff_any k w true (by constructor <;> intro h <;> first | rfl | (cases h; done) | omega | (exfalso; omega))
  have hL := fun w => hasLen_any k w false (by constructor <;> intro h <;> first | rfl | (cases h; done) | omega | (exfalso; omega))
  replace hT := Lib.hid hT
  replace hO := Lib.hid hO
  replace hL := Lib.hid hL
  replace hf := Lib.hid hf
  replace hn := Lib.hid hn
  replace hP := Lib.hid hP
  replace hr := Lib.hid hr
  obtain ⟨q, hq⟩ : ∃ q, Tr.quo p = q := ⟨_, rfl⟩
  have hql : q.length ≤ 12000001 := by rw [← hq]; have := Tr.quo_len p; omega
  have hQ := fun w => quoter_any p w (by omega)
  rw [hq] at hQ
  replace hQ := Lib.hid hQ
  obtain ⟨y, hy⟩ : ∃ y, Lib.itoa f = y := ⟨_, rfl⟩
  have hyl : y.length ≤ 21 := by rw [← hy]; have := Lib.itoa_length_le f hf.out.1 hf.out.2; omega
  have hY := fun w hP => numr_any f w hP hf.out
  rw [hy] at hY
  replace hY := Lib.hid hY
  have hl4 : l.length ≤ 4096 := by
    rcases Nat.lt_or_ge 4096 l.length with h | h
    · exact absurd ⟨hk, h⟩ hlong
    · exact h
  obtain ⟨d, hd⟩ : ∃ d, Tr.hexes l = d := ⟨_, rfl⟩
  have hdl : d.length ≤ 8193 := by rw [← hd, Tr.hexes_len]; omega
  have hD := fun w hr => bytesr_any dv l w hr (by omega)
  rw [hd] at hD
  replace hD := Lib.hid hD
  have hfin : Tr.print ⟨k, p, t, f, n, l⟩ = (Lib.join (x :: [q, y, d]) [32], 0) := by
    unfold Tr.print Tr.fields
    simp only [hx]
    rw [if_neg hne, if_neg hlong]
    simp [*]
  replace hq := Lib.hid hq
  replace hy := Lib.hid hy
  replace hd := Lib.hid hd
  replace hfin := Lib.hid hfin
  have hx1 : (x == []) = false := by simpa using hne
  have hl : ∃ a cap, dv = .slice a l.length cap := hr.out.len
  obtain ⟨av, cap, rfl⟩ := hl
  clear hne hlong
  replace hx := Lib.hid hx
  have hl5 : (l.length : Int) ≤ 4096 := by omega
  subst hk
  go_enter Tryd.func25, Tryd.ntmps25
  go_wp2_with fail
  refine (hW0.out _).mono ?_
  rintro e w0 ⟨rfl, rfl⟩
  go_wp2_with fail
  refine (hQ.out _).mono ?_
  rintro e w1 ⟨rfl, hb1⟩
  have hB1 := Lib.hid (hB0.out.trans (hb1.mono hB0.out.size))
  have hX1 := Lib.hid (hX.out.below hb1)
  clear hb1
  have c1_0 := hX1.out.get 0 _ rfl
  have c1_1 := hX1.out.get 1 _ rfl
  have c1_2 := hX1.out.get 2 _ rfl
  have c1_3 := hX1.out.get 3 _ rfl
  have c1_4 := hX1.out.get 4 _ rfl
  have c1_5 := hX1.out.get 5 _ rfl
  go_wp2_with fail
  refine (hT.out _).mono ?_
  rintro e w0 ⟨rfl, rfl⟩
  go_wp2_with fail
  refine (hO.out _).mono ?_
  rintro e w0 ⟨rfl, rfl⟩
  go_wp2_with fail
  refine (hY.out _ (hP.out.below hB1.out)).mono ?_
  rintro e w2 ⟨rfl, hb2⟩
  have hB2 := Lib.hid (hB1.out.trans (hb2.mono hB1.out.size))
  have hX2 := Lib.hid (hX1.out.below hb2)
  clear hb2
  have c2_0 := hX2.out.get 0 _ rfl
  have c2_1 := hX2.out.get 1 _ rfl
  have c2_2 := hX2.out.get 2 _ rfl
  have c2_3 := hX2.out.get 3 _ rfl
  have c2_4 := hX2.out.get 4 _ rfl
  have c2_5 := hX2.out.get 5 _ rfl
  go_wp2_with fail
  refine (hL.out _).mono ?_
  rintro e w0 ⟨rfl, rfl⟩
  go_wp2_with fail
  refine (hD.out _ (hr.out.below hB2.out)).mono ?_
  rintro e w3 ⟨rfl, hb3⟩
  have hB3 := Lib.hid (hB2.out.trans (hb3.mono hB2.out.size))
  have hX3 := Lib.hid (hX2.out.below hb3)
  clear hb3
  have c3_0 := hX3.out.get 0 _ rfl
  have c3_1 := hX3.out.get 1 _ rfl
  have c3_2 := hX3.out.get 2 _ rfl
  have c3_3 := hX3.out.get 3 _ rfl
  have c3_4 := hX3.out.get 4 _ rfl
  have c3_5 := hX3.out.get 5 _ rfl
  go_wp2_with fail
  go_ret2
  exact textNum_mk hfin.out (ret_text (by simp [Lib.join])) hB3.out
set_option maxRecDepth 100000 in
set_option maxHeartbeats 4000000 in
theorem printr_len (k : Int) (p t : List UInt8) (f n : Int) (l : List UInt8) (dv : Value) (w : World) (hP : Pw w) (hf : in64 f) (hn : in64 n) (hp : p.length ≤ 4000000) (ht : t.length ≤ 4000000)
    (hr : RdB w dv l) (hk : k = 8) (hne : ¬ Tr.word k = []) (hlong : ¬ (k = 7 ∧ 4096 < l.length)) :
    Calls Tryd.prog 25 #[.agg #[.int .i64 k, .string (S p), .string (S t), .int .i64 f, .int .i64 n, dv]] w (TextNum (Tr.print ⟨k, p, t, f, n, l⟩) w) := by
  obtain ⟨x, hx⟩ : ∃ x, Tr.word k = x := ⟨_, rfl⟩
  have hx8 : x.length ≤ 8 := by rw [← hx]; exact Tr.word_len k
  have hW0 := wordr_any k
  rw [hx] at hW0 hne
  replace hW0 := Lib.hid hW0
  have hX := Lib.hid (Box.new w 44 #[.int .i64 k, .string (S p), .string (S t), .int .i64 f, .int .i64 n, dv])
  have hB0 := Lib.hid (show Below w.heap.size w (w.alloc (.cells #[.int .i64 k, .string (S p), .string (S t), .int .i64 f, .int .i64 n, dv] 44)) from (Below.refl _ _).alloc (Nat.le_refl _) _)
  have hT := fun w => hasTo_any k w false (by constructor <;> intro h <;> first | rfl | (cases h; done) | omega | (exfalso; omega))
  have hO := fun w => hasOff_any k w false (by constructor <;> intro h <;> first | rfl | (cases h; done) | omega | (exfalso; omega))
  have hL := fun w => hasLen_any k w true (by constructor <;> intro h <;> first | rfl | (cases h; done) | omega | (exfalso; omega))
  replace hT := Lib.hid hT
  replace hO := Lib.hid hO
  replace hL := Lib.hid hL
  replace hf := Lib.hid hf
  replace hn := Lib.hid hn
  replace hP := Lib.hid hP
  replace hr := Lib.hid hr
  obtain ⟨q, hq⟩ : ∃ q, Tr.quo p = q := ⟨_, rfl⟩
  have hql : q.length ≤ 12000001 := by rw [← hq]; have := Tr.quo_len p; omega
  have hQ := fun w => quoter_any p w (by omega)
  rw [hq] at hQ
  replace hQ := Lib.hid hQ
  obtain ⟨z, hz⟩ : ∃ z, Lib.itoa n = z := ⟨_, rfl⟩
  have hzl : z.length ≤ 21 := by rw [← hz]; have := Lib.itoa_length_le n hn.out.1 hn.out.2; omega
  have hZ := fun w hP => numr_any n w hP hn.out
  rw [hz] at hZ
  replace hZ := Lib.hid hZ
  have hfin : Tr.print ⟨k, p, t, f, n, l⟩ = (Lib.join (x :: [q, z]) [32], 0) := by
    unfold Tr.print Tr.fields
    simp only [hx]
    rw [if_neg hne, if_neg hlong]
    simp [*]
  replace hq := Lib.hid hq
  replace hz := Lib.hid hz
  replace hfin := Lib.hid hfin
  have hx1 : (x == []) = false := by simpa using hne
  have hl : ∃ a cap, dv = .slice a l.length cap := hr.out.len
  obtain ⟨av, cap, rfl⟩ := hl
  clear hne hlong
  replace hx := Lib.hid hx
  subst hk
  go_enter Tryd.func25, Tryd.ntmps25
  go_wp2_with fail
  refine (hW0.out _).mono ?_
  rintro e w0 ⟨rfl, rfl⟩
  go_wp2_with fail
  refine (hQ.out _).mono ?_
  rintro e w1 ⟨rfl, hb1⟩
  have hB1 := Lib.hid (hB0.out.trans (hb1.mono hB0.out.size))
  have hX1 := Lib.hid (hX.out.below hb1)
  clear hb1
  have c1_0 := hX1.out.get 0 _ rfl
  have c1_1 := hX1.out.get 1 _ rfl
  have c1_2 := hX1.out.get 2 _ rfl
  have c1_3 := hX1.out.get 3 _ rfl
  have c1_4 := hX1.out.get 4 _ rfl
  have c1_5 := hX1.out.get 5 _ rfl
  go_wp2_with fail
  refine (hT.out _).mono ?_
  rintro e w0 ⟨rfl, rfl⟩
  go_wp2_with fail
  refine (hO.out _).mono ?_
  rintro e w0 ⟨rfl, rfl⟩
  go_wp2_with fail
  refine (hL.out _).mono ?_
  rintro e w0 ⟨rfl, rfl⟩
  go_wp2_with fail
  refine (hZ.out _ (hP.out.below hB1.out)).mono ?_
  rintro e w2 ⟨rfl, hb2⟩
  have hB2 := Lib.hid (hB1.out.trans (hb2.mono hB1.out.size))
  have hX2 := Lib.hid (hX1.out.below hb2)
  clear hb2
  have c2_0 := hX2.out.get 0 _ rfl
  have c2_1 := hX2.out.get 1 _ rfl
  have c2_2 := hX2.out.get 2 _ rfl
  have c2_3 := hX2.out.get 3 _ rfl
  have c2_4 := hX2.out.get 4 _ rfl
  have c2_5 := hX2.out.get 5 _ rfl
  go_wp2_with fail
  go_ret2
  exact textNum_mk hfin.out (ret_text (by simp [Lib.join])) hB2.out
set_option maxRecDepth 100000 in
set_option maxHeartbeats 4000000 in
theorem printr_both (k : Int) (p t : List UInt8) (f n : Int) (l : List UInt8) (dv : Value) (w : World) (hP : Pw w) (hf : in64 f) (hn : in64 n) (hp : p.length ≤ 4000000) (ht : t.length ≤ 4000000)
    (hr : RdB w dv l) (hk : k = 9) (hne : ¬ Tr.word k = []) (hlong : ¬ (k = 7 ∧ 4096 < l.length)) :
    Calls Tryd.prog 25 #[.agg #[.int .i64 k, .string (S p), .string (S t), .int .i64 f, .int .i64 n, dv]] w (TextNum (Tr.print ⟨k, p, t, f, n, l⟩) w) := by
  obtain ⟨x, hx⟩ : ∃ x, Tr.word k = x := ⟨_, rfl⟩
  have hx8 : x.length ≤ 8 := by rw [← hx]; exact Tr.word_len k
  have hW0 := wordr_any k
  rw [hx] at hW0 hne
  replace hW0 := Lib.hid hW0
  have hX := Lib.hid (Box.new w 44 #[.int .i64 k, .string (S p), .string (S t), .int .i64 f, .int .i64 n, dv])
  have hB0 := Lib.hid (show Below w.heap.size w (w.alloc (.cells #[.int .i64 k, .string (S p), .string (S t), .int .i64 f, .int .i64 n, dv] 44)) from (Below.refl _ _).alloc (Nat.le_refl _) _)
  have hT := fun w => hasTo_any k w false (by constructor <;> intro h <;> first | rfl | (cases h; done) | omega | (exfalso; omega))
  have hO := fun w => hasOff_any k w true (by constructor <;> intro h <;> first | rfl | (cases h; done) | omega | (exfalso; omega))
  have hL := fun w => hasLen_any k w true (by constructor <;> intro h <;> first | rfl | (cases h; done) | omega | (exfalso; omega))
  replace hT := Lib.hid hT
  replace hO := Lib.hid hO
  replace hL := Lib.hid hL
  replace hf := Lib.hid hf
  replace hn := Lib.hid hn
  replace hP := Lib.hid hP
  replace hr := Lib.hid hr
  obtain ⟨q, hq⟩ : ∃ q, Tr.quo p = q := ⟨_, rfl⟩
  have hql : q.length ≤ 12000001 := by rw [← hq]; have := Tr.quo_len p; omega
  have hQ := fun w => quoter_any p w (by omega)
  rw [hq] at hQ
  replace hQ := Lib.hid hQ
  obtain ⟨y, hy⟩ : ∃ y, Lib.itoa f = y := ⟨_, rfl⟩
  have hyl : y.length ≤ 21 := by rw [← hy]; have := Lib.itoa_length_le f hf.out.1 hf.out.2; omega
  have hY := fun w hP => numr_any f w hP hf.out
  rw [hy] at hY
  replace hY := Lib.hid hY
  obtain ⟨z, hz⟩ : ∃ z, Lib.itoa n = z := ⟨_, rfl⟩
  have hzl : z.length ≤ 21 := by rw [← hz]; have := Lib.itoa_length_le n hn.out.1 hn.out.2; omega
  have hZ := fun w hP => numr_any n w hP hn.out
  rw [hz] at hZ
  replace hZ := Lib.hid hZ
  have hfin : Tr.print ⟨k, p, t, f, n, l⟩ = (Lib.join (x :: [q, y, z]) [32], 0) := by
    unfold Tr.print Tr.fields
    simp only [hx]
    rw [if_neg hne, if_neg hlong]
    simp [*]
  replace hq := Lib.hid hq
  replace hy := Lib.hid hy
  replace hz := Lib.hid hz
  replace hfin := Lib.hid hfin
  have hx1 : (x == []) = false := by simpa using hne
  have hl : ∃ a cap, dv = .slice a l.length cap := hr.out.len
  obtain ⟨av, cap, rfl⟩ := hl
  clear hne hlong
  replace hx := Lib.hid hx
  subst hk
  go_enter Tryd.func25, Tryd.ntmps25
  go_wp2_with fail
  refine (hW0.out _).mono ?_
  rintro e w0 ⟨rfl, rfl⟩
  go_wp2_with fail
  refine (hQ.out _).mono ?_
  rintro e w1 ⟨rfl, hb1⟩
  have hB1 := Lib.hid (hB0.out.trans (hb1.mono hB0.out.size))
  have hX1 := Lib.hid (hX.out.below hb1)
  clear hb1
  have c1_0 := hX1.out.get 0 _ rfl
  have c1_1 := hX1.out.get 1 _ rfl
  have c1_2 := hX1.out.get 2 _ rfl
  have c1_3 := hX1.out.get 3 _ rfl
  have c1_4 := hX1.out.get 4 _ rfl
  have c1_5 := hX1.out.get 5 _ rfl
  go_wp2_with fail
  refine (hT.out _).mono ?_
  rintro e w0 ⟨rfl, rfl⟩
  go_wp2_with fail
  refine (hO.out _).mono ?_
  rintro e w0 ⟨rfl, rfl⟩
  go_wp2_with fail
  refine (hY.out _ (hP.out.below hB1.out)).mono ?_
  rintro e w2 ⟨rfl, hb2⟩
  have hB2 := Lib.hid (hB1.out.trans (hb2.mono hB1.out.size))
  have hX2 := Lib.hid (hX1.out.below hb2)
  clear hb2
  have c2_0 := hX2.out.get 0 _ rfl
  have c2_1 := hX2.out.get 1 _ rfl
  have c2_2 := hX2.out.get 2 _ rfl
  have c2_3 := hX2.out.get 3 _ rfl
  have c2_4 := hX2.out.get 4 _ rfl
  have c2_5 := hX2.out.get 5 _ rfl
  go_wp2_with fail
  refine (hL.out _).mono ?_
  rintro e w0 ⟨rfl, rfl⟩
  go_wp2_with fail
  refine (hZ.out _ (hP.out.below hB2.out)).mono ?_
  rintro e w3 ⟨rfl, hb3⟩
  have hB3 := Lib.hid (hB2.out.trans (hb3.mono hB2.out.size))
  have hX3 := Lib.hid (hX2.out.below hb3)
  clear hb3
  have c3_0 := hX3.out.get 0 _ rfl
  have c3_1 := hX3.out.get 1 _ rfl
  have c3_2 := hX3.out.get 2 _ rfl
  have c3_3 := hX3.out.get 3 _ rfl
  have c3_4 := hX3.out.get 4 _ rfl
  have c3_5 := hX3.out.get 5 _ rfl
  go_wp2_with fail
  go_ret2
  exact textNum_mk hfin.out (ret_text (by simp [Lib.join])) hB3.out
set_option maxRecDepth 100000 in
set_option maxHeartbeats 4000000 in
theorem printr_sync (k : Int) (p t : List UInt8) (f n : Int) (l : List UInt8) (dv : Value) (w : World) (hP : Pw w) (hf : in64 f) (hn : in64 n) (hp : p.length ≤ 4000000) (ht : t.length ≤ 4000000)
    (hr : RdB w dv l) (hk : k = 13) (hne : ¬ Tr.word k = []) (hlong : ¬ (k = 7 ∧ 4096 < l.length)) :
    Calls Tryd.prog 25 #[.agg #[.int .i64 k, .string (S p), .string (S t), .int .i64 f, .int .i64 n, dv]] w (TextNum (Tr.print ⟨k, p, t, f, n, l⟩) w) := by
  obtain ⟨x, hx⟩ : ∃ x, Tr.word k = x := ⟨_, rfl⟩
  have hx8 : x.length ≤ 8 := by rw [← hx]; exact Tr.word_len k
  have hW0 := wordr_any k
  rw [hx] at hW0 hne
  replace hW0 := Lib.hid hW0
  have hX := Lib.hid (Box.new w 44 #[.int .i64 k, .string (S p), .string (S t), .int .i64 f, .int .i64 n, dv])
  have hB0 := Lib.hid (show Below w.heap.size w (w.alloc (.cells #[.int .i64 k, .string (S p), .string (S t), .int .i64 f, .int .i64 n, dv] 44)) from (Below.refl _ _).alloc (Nat.le_refl _) _)
  have hT := fun w => hasTo_any k w false (by constructor <;> intro h <;> first | rfl | (cases h; done) | omega | (exfalso; omega))
  have hO := fun w => hasOff_any k w false (by constructor <;> intro h <;> first | rfl | (cases h; done) | omega | (exfalso; omega))
  have hL := fun w => hasLen_any k w false (by constructor <;> intro h <;> first | rfl | (cases h; done) | omega | (exfalso; omega))
  replace hT := Lib.hid hT
  replace hO := Lib.hid hO
  replace hL := Lib.hid hL
  replace hf := Lib.hid hf
  replace hn := Lib.hid hn
  replace hP := Lib.hid hP
  replace hr := Lib.hid hr
  have hfin : Tr.print ⟨k, p, t, f, n, l⟩ = (Lib.join (x :: []) [32], 0) := by
    unfold Tr.print Tr.fields
    simp only [hx]
    rw [if_neg hne, if_neg hlong]
    simp [*]
  replace hfin := Lib.hid hfin
  have hx1 : (x == []) = false := by simpa using hne
  have hl : ∃ a cap, dv = .slice a l.length cap := hr.out.len
  obtain ⟨av, cap, rfl⟩ := hl
  clear hne hlong
  replace hx := Lib.hid hx
  subst hk
  go_enter Tryd.func25, Tryd.ntmps25
  go_wp2_with fail
  refine (hW0.out _).mono ?_
  rintro e w0 ⟨rfl, rfl⟩
  go_wp2_with fail
  refine (hT.out _).mono ?_
  rintro e w0 ⟨rfl, rfl⟩
  go_wp2_with fail
  refine (hO.out _).mono ?_
  rintro e w0 ⟨rfl, rfl⟩
  go_wp2_with fail
  refine (hL.out _).mono ?_
  rintro e w0 ⟨rfl, rfl⟩
  go_wp2_with fail
  go_ret2
  exact textNum_mk hfin.out (ret_text (by simp [Lib.join])) hB0.out
set_option maxRecDepth 100000 in
set_option maxHeartbeats 4000000 in
theorem printr_path (k : Int) (p t : List UInt8) (f n : Int) (l : List UInt8) (dv : Value) (w : World) (hP : Pw w) (hf : in64 f) (hn : in64 n) (hp : p.length ≤ 4000000) (ht : t.length ≤ 4000000)
    (hr : RdB w dv l) (h3 : ¬ k = 3) (h6 : ¬ k = 6) (h7 : ¬ k = 7) (h8 : ¬ k = 8) (h9 : ¬ k = 9) (h13 : ¬ k = 13) (hne : ¬ Tr.word k = []) (hlong : ¬ (k = 7 ∧ 4096 < l.length)) :
    Calls Tryd.prog 25 #[.agg #[.int .i64 k, .string (S p), .string (S t), .int .i64 f, .int .i64 n, dv]] w (TextNum (Tr.print ⟨k, p, t, f, n, l⟩) w) := by
  obtain ⟨x, hx⟩ : ∃ x, Tr.word k = x := ⟨_, rfl⟩
  have hx8 : x.length ≤ 8 := by rw [← hx]; exact Tr.word_len k
  have hW0 := wordr_any k
  rw [hx] at hW0 hne
  replace hW0 := Lib.hid hW0
  have hX := Lib.hid (Box.new w 44 #[.int .i64 k, .string (S p), .string (S t), .int .i64 f, .int .i64 n, dv])
  have hB0 := Lib.hid (show Below w.heap.size w (w.alloc (.cells #[.int .i64 k, .string (S p), .string (S t), .int .i64 f, .int .i64 n, dv] 44)) from (Below.refl _ _).alloc (Nat.le_refl _) _)
  have hT := fun w => hasTo_any k w false (by constructor <;> intro h <;> first | rfl | (cases h; done) | omega | (exfalso; omega))
  have hO := fun w => hasOff_any k w false (by constructor <;> intro h <;> first | rfl | (cases h; done) | omega | (exfalso; omega))
  have hL := fun w => hasLen_any k w false (by constructor <;> intro h <;> first | rfl | (cases h; done) | omega | (exfalso; omega))
  replace hT := Lib.hid hT
  replace hO := Lib.hid hO
  replace hL := Lib.hid hL
  replace hf := Lib.hid hf
  replace hn := Lib.hid hn
  replace hP := Lib.hid hP
  replace hr := Lib.hid hr
  obtain ⟨q, hq⟩ : ∃ q, Tr.quo p = q := ⟨_, rfl⟩
  have hql : q.length ≤ 12000001 := by rw [← hq]; have := Tr.quo_len p; omega
  have hQ := fun w => quoter_any p w (by omega)
  rw [hq] at hQ
  replace hQ := Lib.hid hQ
  have hfin : Tr.print ⟨k, p, t, f, n, l⟩ = (Lib.join (x :: [q]) [32], 0) := by
    unfold Tr.print Tr.fields
    simp only [hx]
    rw [if_neg hne, if_neg hlong]
    simp [*]
  replace hq := Lib.hid hq
  replace hfin := Lib.hid hfin
  have hx1 : (x == []) = false := by simpa using hne
  have hl : ∃ a cap, dv = .slice a l.length cap := hr.out.len
  obtain ⟨av, cap, rfl⟩ := hl
  clear hne hlong
  replace hx := Lib.hid hx
  have e7 : (k == 7) = false := beq_eq_false_iff_ne.2 (by omega)
  have e13 : (k != 13) = true := by rw [bne_iff_ne]; omega
  clear h3 h6 h7 h8 h9 h13
  go_enter Tryd.func25, Tryd.ntmps25
  go_wp2_with fail
  refine (hW0.out _).mono ?_
  rintro e w0 ⟨rfl, rfl⟩
  go_wp2_with fail
  refine (hQ.out _).mono ?_
  rintro e w1 ⟨rfl, hb1⟩
  have hB1 := Lib.hid (hB0.out.trans (hb1.mono hB0.out.size))
  have hX1 := Lib.hid (hX.out.below hb1)
  clear hb1
  have c1_0 := hX1.out.get 0 _ rfl
  have c1_1 := hX1.out.get 1 _ rfl
  have c1_2 := hX1.out.get 2 _ rfl
  have c1_3 := hX1.out.get 3 _ rfl
  have c1_4 := hX1.out.get 4 _ rfl
  have c1_5 := hX1.out.get 5 _ rfl
  go_wp2_with fail
  refine (hT.out _).mono ?_
  rintro e w0 ⟨rfl, rfl⟩
  go_wp2_with fail
  refine (hO.out _).mono ?_
  rintro e w0 ⟨rfl, rfl⟩
  go_wp2_with fail
  refine (hL.out _).mono ?_
  rintro e w0 ⟨rfl, rfl⟩
  go_wp2_with fail
  go_ret2
  exact textNum_mk hfin.out (ret_text (by simp [Lib.join])) hB1.out
set_option maxRecDepth 100000 in
set_option maxHeartbeats 4000000 in
theorem printr_any (o : Opr) (dv : Value) (w : World) (hP : Pw w) (ho : o.ok) (hp : o.path.length ≤ 4000000) (ht : o.dest.length ≤ 4000000) (hr : RdB w dv o.data) :
    Calls Tryd.prog 25 #[.agg #[.int .i64 o.kind, .string (S o.path), .string (S o.dest), .int .i64 o.off, .int .i64 o.len, dv]] w (TextNum (Tr.print o) w) := by
  obtain ⟨k, p, t, f, n, l⟩ := o
  obtain ⟨-, hf, hn⟩ := ho
  dsimp only at *
  have hW0 := wordr_any k
  have hlp : Tr.print ⟨k, p, t, f, n, l⟩ = if Tr.word k = [] then ([], 231) else if k = 7 ∧ 4096 < l.length then ([], 3) else (Lib.join (Tr.word k :: Tr.fields ⟨k, p, t, f, n, l⟩) [32], 0) := rfl
  by_cases hne : Tr.word k = []
  · rw [hne] at hW0
    rw [if_pos hne] at hlp
    replace hW0 := Lib.hid hW0
    replace hlp := Lib.hid hlp
    clear hne hP hr hf hn hp ht
    have hB0 := Lib.hid (show Below w.heap.size w (w.alloc (.cells #[.int .i64 k, .string (S p), .string (S t), .int .i64 f, .int .i64 n, dv] 44)) from (Below.refl _ _).alloc (Nat.le_refl _) _)
    go_enter Tryd.func25, Tryd.ntmps25
    go_wp2_with fail
    refine (hW0.out _).mono ?_
    rintro e w0 ⟨rfl, rfl⟩
    go_wp2_with fail
    go_ret2
    exact textNum_mk hlp.out rfl hB0.out
  by_cases hlong : k = 7 ∧ 4096 < l.length
  · obtain ⟨x, hx⟩ : ∃ x, Tr.word k = x := ⟨_, rfl⟩
    rw [if_neg hne, if_pos hlong] at hlp
    rw [hx] at hne hW0
    replace hx := Lib.hid hx
    have hx1 : (x == []) = false := by simpa using hne
    obtain ⟨rfl, h40⟩ := hlong
    have h41 : (4096 : Int) < (l.length : Int) := by omega
    replace hW0 := Lib.hid hW0
    replace hlp := Lib.hid hlp
    have hl : ∃ a cap, dv = .slice a l.length cap := hr.len
    obtain ⟨av, cap, rfl⟩ := hl
    clear hne hP hr hf hn hp ht
    have hB0 := Lib.hid (show Below w.heap.size w (w.alloc (.cells #[.int .i64 7, .string (S p), .string (S t), .int .i64 f, .int .i64 n, .slice av l.length cap] 44)) from (Below.refl _ _).alloc (Nat.le_refl _) _)
    go_enter Tryd.func25, Tryd.ntmps25
    go_wp2_with fail
    refine (hW0.out _).mono ?_
    rintro e w0 ⟨rfl, rfl⟩
    go_wp2_with fail
    go_ret2
    exact textNum_mk hlp.out rfl hB0.out
  by_cases h36 : k = 3 ∨ k = 6
  · exact printr_to k p t f n l dv w hP hf hn hp ht hr h36 hne hlong
  by_cases h7 : k = 7
  · exact printr_off k p t f n l dv w hP hf hn hp ht hr h7 hne hlong
  by_cases h8 : k = 8
  · exact printr_len k p t f n l dv w hP hf hn hp ht hr h8 hne hlong
  by_cases h9 : k = 9
  · exact printr_both k p t f n l dv w hP hf hn hp ht hr h9 hne hlong
  by_cases h13 : k = 13
  · exact printr_sync k p t f n l dv w hP hf hn hp ht hr h13 hne hlong
  exact printr_path k p t f n l dv w hP hf hn hp ht hr (fun e => h36 (.inl e)) (fun e => h36 (.inr e)) h7 h8 h9 h13 hne hlong
end Go.Proofs.YtpoongljokbgcaaDoor
