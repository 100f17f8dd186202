/- slipwaylaw27.TraceCalls returns true, printed by wip/tools/calls6.py. -/
import Derived.Test.YtpoongljokbgcaaDoorBq
import Derived.Test.YtpoongljokbgcaaDoorBm
import Derived.Test.YtpoongljokbgcaaDoorV
import Derived.Deep.RegionHeld3
namespace Go.Proofs.YtpoongljokbgcaaDoor
open Go.RowKit
theorem eqB_refl (o : Opr) : Tr.eqB o o = true := by unfold Tr.eqB; simp
theorem exact_same (o : Opr) (dv du : Value) (w : World) (hr : RdB w dv o.data) (hu : RdB w du o.data) :
    Calls Tryd.prog 23 #[opV o dv, opV o du] w (BoolBelow true w) := by
  have := exact_any o o dv du w hr hu
  rwa [eqB_refl] at this
theorem line_short (o : Opr) (ho : o.ok) (N : Nat) (hN : 4096 ≤ N) (h1 : o.path.length ≤ N) (h2 : o.dest.length ≤ N) (h3 : o.kind = 7 → ¬ 4096 < o.data.length) : (Lib.join (Tr.word o.kind :: Tr.fields o) [32]).length ≤ 4 * (3 * N + 22) := by
  have hf : Tr.fields o = Tr.fields ⟨o.kind, o.path, o.dest, o.off, o.len, if o.kind = 7 then o.data else []⟩ := by
    unfold Tr.fields
    simp only
    by_cases h7 : o.kind = 7
    · simp [h7]
    · simp [h7]
  rw [hf]
  refine Tr.line_len ⟨o.kind, o.path, o.dest, o.off, o.len, if o.kind = 7 then o.data else []⟩ ho N h1 h2 ?_
  show (if o.kind = 7 then o.data else []).length ≤ N
  by_cases h7 : o.kind = 7
  · rw [if_pos h7]; have := h3 h7; omega
  · rw [if_neg h7]; exact Nat.zero_le _
set_option maxRecDepth 100000 in
set_option maxHeartbeats 16000000 in
theorem calls_main (o o2 : Opr) (line : List UInt8) (dv du : Value) (w : World) (hG : Gl w) (hP : Pw w) (ho : o.ok) (ho2 : o2.ok) (hr : RdB w dv o.data) (hu : RdB w du o2.data)
    (hd : o.data.length ≤ 140737488355328) (hd2 : o2.data.length ≤ 140737488355328) (hlp : o.path.length ≤ 5000) (hlt : o.path.length + o.dest.length ≤ 5000) (hll : line.length ≤ 9000) :
    Calls Tryd.prog 6 #[opV o dv, opV o2 du, .string (S line)] w fun e w' => e = .returned (.bool true) ∧ Below w.heap.size w w' := by
  have hLive := Lib.hid (fun W hG => live_any W hG)
  have hp1 := fun W hG hr => print_any o dv W hG ho (by omega) (fun _ => by omega) hr (fun h => Nat.le_trans (line_short o ho 5000 (by decide) hlp (by omega) h) (by decide))
  have hp2 := fun W hP hr => printr_any o dv W hP ho (by omega) (by omega) hr
  have hq1 := fun W hG => parse_any line W hG (by omega)
  have hq2 := fun W hP => parser_any line W hP (by omega)
  rw [Tr.parse_eq] at hq2
  have hl1 := fun W hG hr => plain_any o dv W hG ho.1 hr (fun _ => hd)
  have hl2 := fun W hr => plainr_any o dv W hr (fun _ => hd)
  have hs1 := fun W hG hr hu => same_any o o2 dv du W hG ho.1 ho2.1 hr hu (fun _ => hd) (fun _ => hd2)
  have hs2 := fun W hr hu => samer_any o o2 dv du W hr hu (fun _ => hd) (fun _ => hd2)
  obtain ⟨⟨LN1, LN2⟩, hLN⟩ : ∃ q, Tr.print o = q := ⟨_, rfl⟩
  rw [hLN] at hp1 hp2
  obtain ⟨q, hq⟩ : ∃ q, Tr.parse line = q := ⟨_, rfl⟩
  rw [hq] at hq1 hq2
  obtain ⟨pl, hpl⟩ : ∃ q, Tr.plain o = q := ⟨_, rfl⟩
  rw [hpl] at hl1 hl2
  obtain ⟨sm, hsm⟩ : ∃ q, Tr.same o o2 = q := ⟨_, rfl⟩
  rw [hsm] at hs1 hs2
  obtain ⟨k, p, t, f, n, l⟩ := o
  obtain ⟨k2, p2, t2, f2, n2, l2⟩ := o2
  dsimp only at *
  obtain ⟨aa, ca, rfl⟩ := hr.len
  obtain ⟨ab, cb, rfl⟩ := hu.len
  unfold opV at *
  dsimp only at *
  have t1 : ¬ ((p.length : Int) + (t.length : Int) > 5000) := by omega
  have t2' : ¬ ((p.length : Int) > 5000) := by omega
  have t3 : ¬ ((line.length : Int) > 9000) := by omega
  replace hp1 := Lib.hid hp1
  replace hp2 := Lib.hid hp2
  replace hq1 := Lib.hid hq1
  replace hq2 := Lib.hid hq2
  replace hl1 := Lib.hid hl1
  replace hl2 := Lib.hid hl2
  replace hs1 := Lib.hid hs1
  replace hs2 := Lib.hid hs2
  replace hLN := Lib.hid hLN
  replace hq := Lib.hid hq
  replace hpl := Lib.hid hpl
  replace hsm := Lib.hid hsm
  replace hr := Lib.hid hr
  replace hu := Lib.hid hu
  replace hG := Lib.hid hG
  replace hP := Lib.hid hP
  clear hd hd2 ho ho2
  have hB0 : Below w.heap.size w ((w.alloc (.cells #[.int .i64 k, .string (S p), .string (S t), .int .i64 f, .int .i64 n, .slice aa l.length ca] 44)).alloc (.cells #[.int .i64 k2, .string (S p2), .string (S t2), .int .i64 f2, .int .i64 n2, .slice ab l2.length cb] 44)) := ((Below.refl _ _).alloc (Nat.le_refl _) _).alloc (by rw [World.size_alloc]; omega) _
  have hX1 := (Box.new w 44 #[.int .i64 k, .string (S p), .string (S t), .int .i64 f, .int .i64 n, .slice aa l.length ca]).alloc (.cells #[.int .i64 k2, .string (S p2), .string (S t2), .int .i64 f2, .int .i64 n2, .slice ab l2.length cb] 44)
  have hX2 := Box.new (w.alloc (.cells #[.int .i64 k, .string (S p), .string (S t), .int .i64 f, .int .i64 n, .slice aa l.length ca] 44)) 44 #[.int .i64 k2, .string (S p2), .string (S t2), .int .i64 f2, .int .i64 n2, .slice ab l2.length cb]
  simp only [World.size_alloc] at hX2
  go_enter Tryd.func6, Tryd.ntmps6
  go_wp2_with fail
  generalize ((w.alloc (.cells #[.int .i64 k, .string (S p), .string (S t), .int .i64 f, .int .i64 n, .slice aa l.length ca] 44)).alloc (.cells #[.int .i64 k2, .string (S p2), .string (S t2), .int .i64 f2, .int .i64 n2, .slice ab l2.length cb] 44)) = W0 at hB0 hX1 hX2 ⊢
  replace hB0 := Lib.hid hB0
  replace hX1 := Lib.hid hX1
  replace hX2 := Lib.hid hX2
  refine (hLive.out _ (hG.out.below hB0.out)).mono ?_
  rintro e w1 ⟨rfl, hb1⟩
  have bB1 := Lib.hid (hB0.out.trans (hb1.mono hB0.out.size))
  have bX1 := Lib.hid (hX1.out.below hb1)
  have bY1 := Lib.hid (hX2.out.below hb1)
  clear hb1 hB0 hX1 hX2
  have c0 := bX1.out.get 0 _ rfl
  have c1 := bX1.out.get 1 _ rfl
  have c2 := bX1.out.get 2 _ rfl
  have c3 := bX1.out.get 3 _ rfl
  have c4 := bX1.out.get 4 _ rfl
  have c5 := bX1.out.get 5 _ rfl
  go_wp2_with fail
  clear c0 c1 c2 c3 c4 c5
  refine (hp1.out _ (hG.out.below bB1.out) (hr.out.below bB1.out)).mono ?_
  rintro e w2 ⟨rfl, hb2⟩
  have bB2 := Lib.hid (bB1.out.trans (hb2.mono bB1.out.size))
  have bX2 := Lib.hid (bX1.out.below hb2)
  have bY2 := Lib.hid (bY1.out.below hb2)
  clear hb2 bB1 bX1 bY1
  have c0 := bX2.out.get 0 _ rfl
  have c1 := bX2.out.get 1 _ rfl
  have c2 := bX2.out.get 2 _ rfl
  have c3 := bX2.out.get 3 _ rfl
  have c4 := bX2.out.get 4 _ rfl
  have c5 := bX2.out.get 5 _ rfl
  go_wp2_with fail
  clear c0 c1 c2 c3 c4 c5
  refine (hp2.out _ (hP.out.below bB2.out) (hr.out.below bB2.out)).mono ?_
  rintro e w3 ⟨rfl, hb3⟩
  have bB3 := Lib.hid (bB2.out.trans (hb3.mono bB2.out.size))
  have bX3 := Lib.hid (bX2.out.below hb3)
  have bY3 := Lib.hid (bY2.out.below hb3)
  clear hb3 bB2 bX2 bY2
  go_wp2_with fail
  refine (hq1.out _ (hG.out.below bB3.out)).mono ?_
  rintro e w4 ⟨d4, rfl, hown, hb4⟩
  have rd4 : RdB w4 d4 _ := Rd.of_own (enc := byteV) hown
  clear hown
  obtain ⟨ra, rc, rfl⟩ := rd4.len
  obtain ⟨m, hm⟩ : ∃ m : Int, (if q.isSome = true then (0 : Int) else 270) = m := ⟨_, rfl⟩
  obtain ⟨ro, hro⟩ : ∃ x, q.getD Tr.zero = x := ⟨_, rfl⟩
  rw [hm]
  rw [hro] at rd4 ⊢
  replace hm := Lib.hid hm
  replace hro := Lib.hid hro
  have bB4 := Lib.hid (bB3.out.trans (hb4.mono bB3.out.size))
  have bX4 := Lib.hid (bX3.out.below hb4)
  have bY4 := Lib.hid (bY3.out.below hb4)
  replace rd4 := Lib.hid rd4
  clear hb4 bB3 bX3 bY3
  go_wp2_with fail
  have hal := (Below.refl w4.heap.size w4).alloc (Nat.le_refl _) (.cells (aggO ro ra rc) 44)
  have bB5 := bB4.out.trans (hal.mono bB4.out.size)
  have bX5 := bX4.out.below hal
  have bY5 := bY4.out.below hal
  have bZ5 := Box.new w4 44 (aggO ro ra rc)
  have rd5 := rd4.out.below hal
  clear hal rd4 bB4 bX4 bY4
  generalize w4.alloc (.cells (aggO ro ra rc) 44) = W5 at bB5 bX5 bY5 bZ5 rd5 ⊢
  generalize w4.heap.size = b4 at bZ5 ⊢
  replace bB5 := Lib.hid bB5
  replace bX5 := Lib.hid bX5
  replace bY5 := Lib.hid bY5
  replace bZ5 := Lib.hid bZ5
  replace rd5 := Lib.hid rd5
  refine (hq2.out _ (hP.out.below bB5.out)).mono ?_
  rintro e w6 ⟨d6, rfl, rd6, hb6⟩
  obtain ⟨sa, sc, rfl⟩ := rd6.len
  unfold opV
  rw [hm.out]
  rw [hro.out] at rd6 ⊢
  have bB6 := Lib.hid (bB5.out.trans (hb6.mono bB5.out.size))
  have bX6 := Lib.hid (bX5.out.below hb6)
  have bY6 := Lib.hid (bY5.out.below hb6)
  have bZ6 := Lib.hid (bZ5.out.below hb6)
  have rd56 := Lib.hid (rd5.out.below hb6)
  replace rd6 := Lib.hid rd6
  clear hb6 bB5 bX5 bY5 bZ5 rd5
  go_upto_region 9 with fail
  have hal := (Below.refl w6.heap.size w6).alloc (Nat.le_refl _) (.cells (aggO ro sa sc) 44)
  have bB7 := bB6.out.trans (hal.mono bB6.out.size)
  have bX7 := bX6.out.below hal
  have bY7 := bY6.out.below hal
  have bZ7 := bZ6.out.below hal
  have bV7 := Box.new w6 44 (aggO ro sa sc)
  have rd57 := rd56.out.below hal
  have rd67 := rd6.out.below hal
  clear hal rd56 rd6 bB6 bX6 bY6 bZ6
  generalize w6.alloc (.cells (aggO ro sa sc) 44) = W7 at bB7 bX7 bY7 bZ7 bV7 rd57 rd67 ⊢
  generalize w6.heap.size = b6 at bV7 ⊢
  have y1 : w.heap.size < W7.heap.size := bX7.lt
  have y2 : w.heap.size + 1 < W7.heap.size := bY7.lt
  have y3 : b4 < W7.heap.size := bZ7.lt
  have y4 : b6 < W7.heap.size := bV7.lt
  have hE1 : Calls Tryd.prog 23 #[.agg (aggO ro ra rc), .agg (aggO ro sa sc)] W7.drew (BoolBelow true W7.drew) := exact_same ro _ _ W7.drew rd57 rd67
  have cX := bX7.cell
  have cY := bY7.cell
  have cZ := bZ7.cell
  have cV := bV7.cell
  replace hE1 := Lib.hid hE1
  replace bB7 := Lib.hid (bB7.drew : Below w.heap.size w W7.drew)
  clear bX7 bY7 bZ7 bV7 rd57 rd67 hm hro hq hpl hsm hLN
  go_region_held3 (fun w' => (∀ j, w'.cell? ⟨w.heap.size, j, none⟩ = #[.int .i64 k, .string (S p), .string (S t), .int .i64 f, .int .i64 n, .slice aa l.length ca][j]?) ∧ (∀ j, w'.cell? ⟨w.heap.size + 1, j, none⟩ = #[.int .i64 k2, .string (S p2), .string (S t2), .int .i64 f2, .int .i64 n2, .slice ab l2.length cb][j]?) ∧ (∀ j, w'.cell? ⟨b4, j, none⟩ = (aggO ro ra rc)[j]?) ∧ (∀ j, w'.cell? ⟨b6, j, none⟩ = (aggO ro sa sc)[j]?))
    (((try dsimp only); (repeat' apply And.intro) <;> (intro j; (repeat (first | rw [hc6.cell (by show (_ : Nat) < v5.heap.size; dsimp only; omega)] | rw [hc5.cell (by show (_ : Nat) < v4.heap.size; dsimp only; omega)] | rw [hc4.cell (by show (_ : Nat) < v3.heap.size; dsimp only; omega)] | rw [hc3.cell (by show (_ : Nat) < v2.heap.size; dsimp only; omega)] | rw [hc2.cell (by show (_ : Nat) < v1.heap.size; dsimp only; omega)] | rw [hc1.cell (by show (_ : Nat) < W7.heap.size; dsimp only; omega)])); first | exact cX j | exact cY j | exact cZ j | exact cV j)))
    (first
      | (go_at_call 23; (with_reducible refine hE1.out.mono ?_); rintro e v1 ⟨rfl, hc1⟩; have z1 : W7.heap.size ≤ v1.heap.size := hc1.size; have u1 := Lib.hid (bB7.out.trans (hc1.mono bB7.out.size)))
      | (go_at_call 24; refine (hl1.out _ (hG.out.below u1.out) (hr.out.below u1.out)).mono ?_; rintro e v2 ⟨dva, rfl, rpa, hc2⟩; have z2 : v1.heap.size ≤ v2.heap.size := hc2.size; have u2 := Lib.hid (u1.out.trans (hc2.mono u1.out.size)))
      | (go_at_call 27; refine (hl2.out _ (hr.out.below u2.out)).mono ?_; rintro e v3 ⟨dvb, rfl, rpb, hc3⟩; have z3 : v2.heap.size ≤ v3.heap.size := hc3.size; have u3 := Lib.hid (u2.out.trans (hc3.mono u2.out.size)))
      | (go_at_call 23; (with_reducible refine (exact_same pl dva dvb _ (rpa.below hc3) rpb).mono ?_); rintro e v4 ⟨rfl, hc4⟩; have z4 : v3.heap.size ≤ v4.heap.size := hc4.size; have u4 := Lib.hid (u3.out.trans (hc4.mono u3.out.size)))
      | (go_at_call 22; refine (hs1.out _ (hG.out.below u4.out) (hr.out.below u4.out) (hu.out.below u4.out)).mono ?_; rintro e v5 ⟨rfl, hc5⟩; have z5 : v4.heap.size ≤ v5.heap.size := hc5.size; have u5 := Lib.hid (u4.out.trans (hc5.mono u4.out.size)))
      | (go_at_call 28; refine (hs2.out _ (hr.out.below u5.out) (hu.out.below u5.out)).mono ?_; rintro e v6 ⟨rfl, hc6⟩; have z6 : v5.heap.size ≤ v6.heap.size := hc6.size; have u6 := Lib.hid (u5.out.trans (hc6.mono u5.out.size))))
  all_goals
    go_wp2_with fail
    go_ret
    exact ⟨by simp, u6.out⟩
end Go.Proofs.YtpoongljokbgcaaDoor
