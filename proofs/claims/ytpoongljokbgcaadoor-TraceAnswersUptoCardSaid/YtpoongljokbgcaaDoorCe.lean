/- slipwaylaw27.TraceAnswers returns true. -/
import Derived.Test.YtpoongljokbgcaaDoorCd
import Derived.Test.YtpoongljokbgcaaDoorAi
import Derived.Test.YtpoongljokbgcaaDoorAc
import Derived.Test.YtpoongljokbgcaaDoorV
namespace Go.Proofs.YtpoongljokbgcaaDoor
open Go.RowKit
theorem parsed_many (t : List UInt8) (ht : t.length ≤ 4000000) : ((Tr.parseAns t).getD Tr.resZero).list.length ≤ 1000000000000 := by
  rw [← Tr.parseAnsR_eq]
  unfold Tr.parseAnsR
  split
  · exact (abuildR_fit t (Tr.spl 32 t) (Nat.le_trans (spl_len 32 t) (by omega)) (fun x hx => Nat.le_trans (Tr.spl_mem 32 t x hx) ht)).2.many
  · simp [Tr.resZero]
def AnsRd (e' : Int) (l' : List UInt8) (k' n' z' : Int) (x' : List Ent) (st : Int) (w : World) (e : Ending) (w' : World) : Prop :=
  ∃ pa pc qa qc, e = .returned (.tuple #[.agg #[.int .i64 e', .slice pa l'.length pc, .int .i64 k', .int .i64 n', .int .i64 z', .slice qa x'.length qc], .int .i64 st]) ∧ RdB w' (.slice pa l'.length pc) l' ∧ RdE w' (.slice qa x'.length qc) x' ∧ Below w.heap.size w w'
theorem ansRd_of {o : Option Res} {e' : Int} {l' : List UInt8} {k' n' z' : Int} {x' : List Ent} {st : Int} (h : o.getD Tr.resZero = ⟨e', l', k', n', z', x'⟩) (hs : (if o.isSome then 0 else 270) = st) {w : World} {e : Ending} {w' : World} (ha : AnsRes o w e w') : AnsRd e' l' k' n' z' x' st w e w' := by
  obtain ⟨dv, lv, he, od, ol, hb⟩ := ha
  rw [h] at he od ol
  rw [hs] at he
  dsimp only at he od ol
  obtain ⟨pa, pc, rfl⟩ := (Rd.of_own (enc := byteV) (xs := l') od).len
  obtain ⟨qa, qc, rfl⟩ := (RdE.of_own ol).len
  exact ⟨pa, pc, qa, qc, he, Rd.of_own (enc := byteV) (xs := l') od, RdE.of_own ol, hb⟩
set_option maxRecDepth 100000 in
set_option maxHeartbeats 8000000 in
theorem answers_main (k : Int) (hk : in64 k) (w : World) (hG : Gl w) (hP : Pw w) (er : Int) (l : List UInt8) (kd ln sz : Int) (xs : List Ent) (hr : Res.ok ⟨er, l, kd, ln, sz, xs⟩) (da : Option Addr) (dc : Nat) (la : Option Addr) (lc : Nat) (t : List UInt8)
    (hd : RdB w (.slice da l.length dc) l) (hl : RdE w (.slice la xs.length lc) xs) (hf : Res.fits ⟨er, l, kd, ln, sz, xs⟩) (h3 : l.length ≤ 3000) (h1 : xs.length ≤ 100) (h9 : t.length ≤ 9000) :
    Calls Tryd.prog 7 #[.int .i64 k, .agg #[.int .i64 er, .slice da l.length dc, .int .i64 kd, .int .i64 ln, .int .i64 sz, .slice la xs.length lc], .string (S t)] w fun e w' => e = .returned (.bool true) ∧ Below w.heap.size w w' := by
  have t1 : ¬ ((l.length : Int) > 3000) := by omega
  have t2 : ¬ ((xs.length : Int) > 100) := by omega
  have t3 : ¬ ((t.length : Int) > 9000) := by omega
  have hm := parsed_many t (by omega)
  have hp1 := fun W hG => parseAns_any t W hG (by omega)
  have hp2 := fun W hP => parseansr_any t W hP (by omega)
  rw [Tr.parseAnsR_eq] at hp2
  obtain ⟨o, ho⟩ : ∃ o, Tr.parseAns t = o := ⟨_, rfl⟩
  rw [ho] at hm hp1 hp2
  clear ho
  obtain ⟨⟨e', l', k', n', z', x'⟩, hR⟩ : ∃ R, o.getD Tr.resZero = R := ⟨_, rfl⟩
  obtain ⟨st, hst⟩ : ∃ st : Int, (if o.isSome then 0 else 270) = st := ⟨_, rfl⟩
  rw [hR] at hm
  dsimp only at hm
  have hq1 := Lib.hid (fun W hG => (hp1 W hG).mono fun e w' h => ansRd_of hR hst h)
  have hq2 := Lib.hid (fun W hP => (hp2 W hP).mono fun e w' h => ansRd_of hR hst h)
  clear hp1 hp2 hR hst
  have hsr := Lib.hid (fun dv lv dv' lv' W hd hl hd' hl' => sameResult_true ⟨e', l', k', n', z', x'⟩ dv lv dv' lv' W hm hd hl hd' hl')
  have hA1 := fun W hd hl => answer_any k ⟨er, l, kd, ln, sz, xs⟩ (.slice da l.length dc) (.slice la xs.length lc) W hk hr hf hd hl
  have hA2 := fun W hP hd hl => answerr_any k ⟨er, l, kd, ln, sz, xs⟩ (.slice da l.length dc) (.slice la xs.length lc) W hP hr hf hd hl
  obtain ⟨Y, hY⟩ : ∃ Y, Tr.answer k ⟨er, l, kd, ln, sz, xs⟩ = Y := ⟨_, rfl⟩
  rw [hY] at hA1 hA2
  clear hY hm hk hr hf h3 h1 h9
  replace hA1 := Lib.hid hA1
  replace hA2 := Lib.hid hA2
  replace hG := Lib.hid hG
  replace hP := Lib.hid hP
  replace hd := Lib.hid hd
  replace hl := Lib.hid hl
  have hB0 := Lib.hid (show Below w.heap.size w (w.alloc (.cells #[.int .i64 er, .slice da l.length dc, .int .i64 kd, .int .i64 ln, .int .i64 sz, .slice la xs.length lc] 33)) from (Below.refl _ _).alloc (Nat.le_refl _) _)
  have hX0 := Lib.hid (Box.new w 33 #[.int .i64 er, .slice da l.length dc, .int .i64 kd, .int .i64 ln, .int .i64 sz, .slice la xs.length lc])
  have hLive := Lib.hid (fun W hG => live_any W hG)
  go_enter Tryd.func7, Tryd.ntmps7
  go_wp2_with fail
  refine (hLive.out _ (hG.out.below hB0.out)).mono ?_
  rintro e w1 ⟨rfl, hb1⟩
  have bx1 := hX0.out.below hb1
  have bw1 := Lib.hid (hB0.out.trans (hb1.mono hB0.out.size))
  have c1 := bx1.get 1 _ rfl
  have c5 := bx1.get 5 _ rfl
  clear hb1
  replace bx1 := Lib.hid bx1
  go_wp2_with fail
  refine (hq1.out _ (hG.out.below bw1.out)).mono ?_
  rintro e w2 ⟨pa, pc, qa, qc, rfl, rd2, re2, hb2⟩
  have bx2 := Lib.hid (bx1.out.below hb2)
  have bw2 := Lib.hid (bw1.out.trans (hb2.mono bw1.out.size))
  clear hb2 c1 c5 bx1 bw1
  have hal := (Below.refl w2.heap.size w2).alloc (Nat.le_refl _) (.cells #[.int .i64 e', .slice pa l'.length pc, .int .i64 k', .int .i64 n', .int .i64 z', .slice qa x'.length qc] 33)
  have bx3 := Lib.hid (bx2.out.below hal)
  have by3 := Lib.hid (Box.new w2 33 #[.int .i64 e', .slice pa l'.length pc, .int .i64 k', .int .i64 n', .int .i64 z', .slice qa x'.length qc])
  have bw3 := Lib.hid (bw2.out.trans (hal.mono bw2.out.size))
  have rd3 := Lib.hid (rd2.below hal)
  have re3 := Lib.hid (re2.below hal)
  clear hal bx2 bw2 rd2 re2
  go_wp2_with fail
  refine (hq2.out _ (hP.out.below bw3.out)).mono ?_
  rintro e w4 ⟨pa', pc', qa', qc', rfl, rd5, re5, hb4⟩
  have bx4 := Lib.hid (bx3.out.below hb4)
  have by4 := Lib.hid (by3.out.below hb4)
  have bw4 := Lib.hid (bw3.out.trans (hb4.mono bw3.out.size))
  have rd4 := Lib.hid (rd3.out.below hb4)
  have re4 := Lib.hid (re3.out.below hb4)
  clear hb4 bx3 by3 bw3 rd3 re3
  go_upto_region 7 with fail
  have hal := (Below.refl w4.heap.size w4).alloc (Nat.le_refl _) (.cells #[.int .i64 e', .slice pa' l'.length pc', .int .i64 k', .int .i64 n', .int .i64 z', .slice qa' x'.length qc'] 33)
  have bX := bx4.out.below hal
  have bY := by4.out.below hal
  have bZ := Box.new w4 33 #[.int .i64 e', .slice pa' l'.length pc', .int .i64 k', .int .i64 n', .int .i64 z', .slice qa' x'.length qc']
  have bW := Lib.hid (bw4.out.trans (hal.mono bw4.out.size))
  have rd6 := rd4.out.below hal
  have re6 := re4.out.below hal
  have rd7 := rd5.below hal
  have re7 := re5.below hal
  clear hal bx4 by4 bw4 rd4 re4 rd5 re5
  generalize w4.alloc (.cells #[.int .i64 e', .slice pa' l'.length pc', .int .i64 k', .int .i64 n', .int .i64 z', .slice qa' x'.length qc'] 33) = W at bX bY bZ bW rd6 re6 rd7 re7 ⊢
  generalize w2.heap.size = b7 at bY ⊢
  generalize w4.heap.size = b9 at bZ ⊢
  have y1 : w.heap.size < W.heap.size := bX.lt
  have y2 : b7 < W.heap.size := bY.lt
  have y3 : b9 < W.heap.size := bZ.lt
  have cX := bX.cell
  have cY := bY.cell
  have cZ := bZ.cell
  have D0 := (Below.refl W.heap.size W).drew
  have hE1 := Lib.hid (hA1.out W.drew ((hd.out.below bW.out).below D0) ((hl.out.below bW.out).below D0))
  have u0 := Lib.hid (bW.out.drew : Below w.heap.size w W.drew)
  have rd6 := Lib.hid (rd6.below D0)
  have re6 := Lib.hid (re6.below D0)
  have rd7 := Lib.hid (rd7.below D0)
  have re7 := Lib.hid (re7.below D0)
  clear bX bY bZ D0 bW
  go_region_held3 (fun w' => (∀ j, w'.cell? ⟨w.heap.size, j, none⟩ = #[.int .i64 er, .slice da l.length dc, .int .i64 kd, .int .i64 ln, .int .i64 sz, .slice la xs.length lc][j]?) ∧ (∀ j, w'.cell? ⟨b7, j, none⟩ = #[.int .i64 e', .slice pa l'.length pc, .int .i64 k', .int .i64 n', .int .i64 z', .slice qa x'.length qc][j]?) ∧ (∀ j, w'.cell? ⟨b9, j, none⟩ = #[.int .i64 e', .slice pa' l'.length pc', .int .i64 k', .int .i64 n', .int .i64 z', .slice qa' x'.length qc'][j]?))
    (((try dsimp only); (repeat' apply And.intro) <;> (intro j; (repeat (first | rw [hc3.cell (by show (_ : Nat) < v2.heap.size; dsimp only; omega)] | rw [hc2.cell (by show (_ : Nat) < v1.heap.size; dsimp only; omega)] | rw [hc1.cell (by show (_ : Nat) < W.heap.size; dsimp only; omega)])); first | exact cX j | exact cY j | exact cZ j)))
    (first
      | (go_at_call 14; (with_reducible refine hE1.out.mono ?_); rintro e v1 ⟨rfl, hc1⟩; have z1 : W.heap.size ≤ v1.heap.size := hc1.size; have u1 := Lib.hid (u0.out.trans (hc1.mono u0.out.size)); have rd61 := Lib.hid (rd6.out.below hc1); have re61 := Lib.hid (re6.out.below hc1); have rd71 := Lib.hid (rd7.out.below hc1); have re71 := Lib.hid (re7.out.below hc1))
      | (go_at_call 30; refine (hA2.out _ (hP.out.below u1.out) (hd.out.below u1.out) (hl.out.below u1.out)).mono ?_; rintro e v2 ⟨rfl, hc2⟩; have z2 : v1.heap.size ≤ v2.heap.size := hc2.size; have u2 := Lib.hid (u1.out.trans (hc2.mono u1.out.size)); have rd62 := Lib.hid (rd61.out.below hc2); have re62 := Lib.hid (re61.out.below hc2); have rd72 := Lib.hid (rd71.out.below hc2); have re72 := Lib.hid (re71.out.below hc2))
      | (go_at_call 17; refine (hsr.out _ _ _ _ _ rd62.out re62.out rd72.out re72.out).mono ?_; rintro e v3 ⟨rfl, hc3⟩; have z3 : v2.heap.size ≤ v3.heap.size := hc3.size; have u3 := Lib.hid (u2.out.trans (hc3.mono u2.out.size))))
  all_goals
    go_wp2_with fail
    go_ret
    exact ⟨by simp, u3.out⟩
set_option maxRecDepth 100000 in
set_option maxHeartbeats 4000000 in
theorem answers_over (k : Int) (w : World) (hG : Gl w) (er : Int) (n : Nat) (kd ln sz : Int) (m : Nat) (da : Option Addr) (dc : Nat) (la : Option Addr) (lc : Nat) (t : List UInt8) (h : 3000 < n ∨ 100 < m ∨ 9000 < t.length) :
    Calls Tryd.prog 7 #[.int .i64 k, .agg #[.int .i64 er, .slice da n dc, .int .i64 kd, .int .i64 ln, .int .i64 sz, .slice la m lc], .string (S t)] w fun e w' => e = .returned (.bool true) ∧ Below w.heap.size w w' := by
  have hB0 := Lib.hid (show Below w.heap.size w (w.alloc (.cells #[.int .i64 er, .slice da n dc, .int .i64 kd, .int .i64 ln, .int .i64 sz, .slice la m lc] 33)) from (Below.refl _ _).alloc (Nat.le_refl _) _)
  have hX0 := Lib.hid (Box.new w 33 #[.int .i64 er, .slice da n dc, .int .i64 kd, .int .i64 ln, .int .i64 sz, .slice la m lc])
  replace hG := Lib.hid hG
  have hLive := Lib.hid (fun W hG => live_any W hG)
  have main : ∀ a b c : Bool, decide ((n : Int) > 3000) = a → decide ((m : Int) > 100) = b → decide ((t.length : Int) > 9000) = c → (a || b || c) = true →
    Calls Tryd.prog 7 #[.int .i64 k, .agg #[.int .i64 er, .slice da n dc, .int .i64 kd, .int .i64 ln, .int .i64 sz, .slice la m lc], .string (S t)] w fun e w' => e = .returned (.bool true) ∧ Below w.heap.size w w' := by
    clear h
    intro a b c h1 h2 h3 h
    cases a <;> cases b <;> cases c <;> (first | (exact absurd h (by decide)) | skip)
    all_goals
      clear h
      simp only [decide_eq_true_eq, decide_eq_false_iff_not] at h1 h2 h3
      go_enter Tryd.func7, Tryd.ntmps7
      go_wp2_with fail
      refine (hLive.out _ (hG.out.below hB0.out)).mono ?_
      rintro e w1 ⟨rfl, hb1⟩
      have bx1 := hX0.out.below hb1
      have bw1 := hB0.out.trans (hb1.mono hB0.out.size)
      have c1 := bx1.get 1 _ rfl
      have c5 := bx1.get 5 _ rfl
      clear hb1 bx1
      go_wp2_with fail
      go_ret
      exact ⟨rfl, bw1⟩
  refine main _ _ _ rfl rfl rfl ?_
  rcases h with h | h | h
  · rw [decide_eq_true (show (n : Int) > 3000 by omega)]; simp
  · rw [decide_eq_true (show (m : Int) > 100 by omega)]; simp
  · rw [decide_eq_true (show (t.length : Int) > 9000 by omega)]; simp
end Go.Proofs.YtpoongljokbgcaaDoor
