/- The reference's reading of an answer (slipwayref27.ParseAnswer), printed by wip/tools/parse29.py. -/
import Derived.Test.YtpoongljokbgcaaDoorBz
import Derived.Test.YtpoongljokbgcaaDoorBg
import Derived.Test.YtpoongljokbgcaaDoorCb
import Derived.Test.YtpoongljokbgcaaDoorCc
import Derived.Test.YtpoongljokbgcaaDoorAd
import Derived.Deep.DeepCutAuto
namespace Go.Proofs.YtpoongljokbgcaaDoor
open Go.RowKit
/-- A zero answer's cells. -/
abbrev zero33 : Array Value := #[.int .i64 0, .slice none 0 0, .int .i64 0, .int .i64 0, .int .i64 0, .slice none 0 0]
theorem Box.grown' {W W' : World} {b : Nat} {t : TypeId} {vs : Array Value} {row : Option Nat} (h : Box W b t vs) (hg : W.grownBy W' row) (hne : some b ≠ row) : Box W' b t vs := (hg.block b h.lt hne).trans h
theorem cellsE_snoc' (xs : List Ent) (e : Ent) : cellsE (xs ++ [e]) = cellsE xs ++ [.string (S e.name), .int .i64 e.ino, .int .i64 e.kind] := by unfold cellsE; rw [List.flatMap_append]; rfl
theorem RdW.at {W : World} {v : Value} {ws : List (List UInt8)} {b : Nat} (h : RdW W v ws b) (hne : 0 < ws.length) :
    ∃ b' o cap, v = .slice (some ⟨b', o, none⟩) ws.length cap ∧ ws.length ≤ cap ∧ b' < b ∧ b' < W.heap.size ∧ ∀ j x, ws[j]? = some x → W.cell? ⟨b', o + j, none⟩ = some (.string (S x)) := by
  obtain ⟨a, cap, h1, h2, _, h3⟩ := h
  obtain ⟨b', o, e1, e2, _, e4⟩ := h3 0 ws[0] (List.getElem?_eq_getElem hne)
  subst e1
  refine ⟨b', o, cap, h1, h2, e4, e2, fun j x hj => ?_⟩
  obtain ⟨b2, o2, e5, _, e7, _⟩ := h3 j x hj
  cases e5
  exact e7
theorem RdW.grown {W W' : World} {v : Value} {ws : List (List UInt8)} {b : Nat} {row : Option Nat} (h : RdW W v ws b) (hg : W.grownBy W' row) (hrow : ∀ k, some k = row → b ≤ k) : RdW W' v ws b := by
  obtain ⟨a, cap, h1, h2, hm, h3⟩ := h
  refine ⟨a, cap, h1, h2, hm, fun j x hj => ?_⟩
  obtain ⟨b', o, e1, e2, e3, e4⟩ := h3 j x hj
  have hs := hg.size
  exact ⟨b', o, e1, by omega, (hg.cell_far ⟨b', o + j, none⟩ e2 (fun h => by have := hrow b' h; omega)).trans e3, e4⟩
theorem ents_fit' (l : List Ent) (hn : l.length ≤ 4000001) (hin : ∀ e ∈ l, in64 e.kind ∧ e.name.length ≤ 4000000) : Res.ok ⟨0, [], 0, 0, 0, l⟩ ∧ Res.fits ⟨0, [], 0, 0, 0, l⟩ := by
  refine ⟨⟨in64_zero, in64_zero, in64_zero, in64_zero, fun e he => (hin e he).1⟩, ⟨by simp, fun e he => by have := (hin e he).2; omega, by simp; omega, ?_⟩⟩
  refine Nat.le_trans (Tr.join_len _ 32 12000030 ?_) ?_
  · intro x hx
    rcases List.mem_cons.1 hx with rfl | h
    · simp
    · obtain ⟨e, he, rfl⟩ := List.mem_map.1 h
      have h1 := (hin e he).2
      have h2 := Tr.quo_len e.name
      have h3 := Lib.itoa_length_le e.kind (hin e he).1.1 (hin e he).1.2
      unfold Tr.ent
      rw [List.length_append, List.length_cons]
      omega
  · simp only [List.length_cons, List.length_map]
    refine Nat.le_trans (Nat.mul_le_mul_right _ (show l.length + 1 ≤ 4000002 by omega)) (by decide)
theorem entR_fit (x : List UInt8) (h : x.length ≤ 4000000) : in64 (Tr.entR x).1.kind ∧ (Tr.entR x).1.name.length ≤ 4000000 := by
  unfold Tr.entR
  split
  · exact ⟨pnum_in _, Nat.le_trans (Tr.toEnt_name x) h⟩
  · exact ⟨in64_zero, by simp⟩
theorem abuildR_fit (s : List UInt8) (ws : List (List UInt8)) (hn : ws.length ≤ 4000001) (hm : ∀ x ∈ ws, x.length ≤ 4000000) : (Tr.abuildR s ws).1.2.ok ∧ (Tr.abuildR s ws).1.2.fits := by
  have hg : ∀ i, (ws.getD i []).length ≤ 4000000 := by
    intro i
    rw [List.getD_eq_getElem?_getD]
    cases h : ws[i]? with
    | none => simp
    | some x => exact hm x (List.mem_of_getElem? h)
  have h0 : Tr.resZero.ok ∧ Tr.resZero.fits := ⟨res_plain 0 0 0 0 ⟨in64_zero, in64_zero, in64_zero, in64_zero⟩ [], fits_plain 0 0 0 0 [] (by simp)⟩
  unfold Tr.abuildR
  split
  · exact h0
  split
  · exact ⟨res_plain _ 0 0 0 ⟨pnum_in _, in64_zero, in64_zero, in64_zero⟩ [], fits_plain _ 0 0 0 [] (by simp)⟩
  split
  · exact ⟨res_plain 0 0 0 0 ⟨in64_zero, in64_zero, in64_zero, in64_zero⟩ _, fits_plain 0 0 0 0 _ (Nat.le_trans (Tr.unhexesX_len _) (hg 1))⟩
  split
  · exact ⟨res_plain 0 _ _ _ ⟨in64_zero, pnum_in _, pnum_in _, pnum_in _⟩ [], fits_plain 0 _ _ _ [] (by simp)⟩
  split
  · refine ents_fit' _ (by simp; omega) ?_
    intro e he
    obtain ⟨x, hx, rfl⟩ := List.mem_map.1 he
    exact entR_fit x (hm x (List.mem_of_mem_tail hx))
  · exact h0
/-- An answer's cells in block b, what its slices own, the result's block h. -/
structure ASt (w : World) (h b : Nat) (p : (Int × Res) × Bool) (kv ov : Value) (W : World) : Prop where
  kind : kv = .int .i64 p.1.1
  ok : ov = .bool p.2
  box : ∃ dv lv, Box W b 33 #[.int .i64 p.1.2.err, dv, .int .i64 p.1.2.kind, .int .i64 p.1.2.links, .int .i64 p.1.2.size, lv] ∧ W.ownsRow (b + 1) 5 1 dv p.1.2.data.length (Lib.byteCells p.1.2.data) ∧ W.ownsRow (b + 1) 39 3 lv p.1.2.list.length (cellsE p.1.2.list)
  res : Box W h 33 zero33
  bel : Below w.heap.size w W
theorem aSt_mk {w : World} {h b : Nat} {p : (Int × Res) × Bool} {k er kd ln sz : Int} {l : List UInt8} {xs : List Ent} {o : Bool} {kv ov dv lv : Value} {W : World} (hp : p = ((k, ⟨er, l, kd, ln, sz, xs⟩), o)) (hk : kv = .int .i64 k) (ho : ov = .bool o)
    (hb : Box W b 33 #[.int .i64 er, dv, .int .i64 kd, .int .i64 ln, .int .i64 sz, lv]) (hd : W.ownsRow (b + 1) 5 1 dv l.length (Lib.byteCells l)) (hl : W.ownsRow (b + 1) 39 3 lv xs.length (cellsE xs)) (hr : Box W h 33 zero33) (hB : Below w.heap.size w W) : ASt w h b p kv ov W := by
  subst hp; exact ⟨hk, ho, ⟨dv, lv, hb, hd, hl⟩, hr, hB⟩
theorem res29 {W : World} {b : Nat} {v0 v1 v2 v3 v4 v5 : Value} (h : Box W b 33 #[v0, v1, v2, v3, v4, v5]) {tmps : Array Value} {n : Int} (h2 : tmps.getD 2 undef = .pointer (some ⟨b, 0, none⟩)) (h3 : tmps.getD 3 undef = .int .i64 n) :
    (results Tryd.f29 tmps).run Tryd.prog W = .ok (.tuple #[.agg #[v0, v1, v2, v3, v4, v5], .int .i64 n]) W := by
  have d0 := h.get 0 _ rfl
  have d1 := h.get 1 _ rfl
  have d2 := h.get 2 _ rfl
  have d3 := h.get 3 _ rfl
  have d4 := h.get 4 _ rfl
  have d5 := h.get 5 _ rfl
  simp at h2 h3
  simp [results, Tryd.results29, go_sem, h2, h3, d0, d1, d2, d3, d4, d5]
set_option maxRecDepth 100000 in
set_option maxHeartbeats 16000000 in
theorem parseansr_any (s : List UInt8) (w : World) (hP : Pw w) (hs : s.length ≤ 4000000) :
    Calls Tryd.prog 29 #[.string (S s)] w (AnsRes (Tr.parseAnsR s) w) := by
  obtain ⟨ws, hws⟩ : ∃ ws, Tr.spl 32 s = ws := ⟨_, rfl⟩
  have hwm : ws.length ≤ 4000001 := by rw [← hws]; exact Nat.le_trans (spl_len 32 s) (by omega)
  have hwx : ∀ x ∈ ws, x.length ≤ 4000000 := by rw [← hws]; exact fun x hx => Nat.le_trans (Tr.spl_mem 32 s x hx) hs
  have hc1 := fun W => wordsr_any s W hs
  rw [hws] at hc1
  have hpr : Tr.parseAnsR s = if (Tr.abuildR s ws).2 = true ∧ Tr.answer (Tr.abuildR s ws).1.1 (Tr.abuildR s ws).1.2 = s then some (Tr.abuildR s ws).1.2 else none := by unfold Tr.parseAnsR; rw [hws]
  have hne : 0 < ws.length := by rw [← hws]; exact List.length_pos_iff.2 (Tr.spl_ne 32 s)
  replace hws := Lib.hid hws
  replace hc1 := Lib.hid hc1
  replace hwx := Lib.hid hwx
  replace hP := Lib.hid hP
  replace hpr := Lib.hid hpr
  have hB0 := Lib.hid (show Below w.heap.size w (w.alloc (.cells zero33 33)) from (Below.refl _ _).alloc (Nat.le_refl _) _)
  have hX0 := Lib.hid (Box.new w 33 zero33)
  go_enter Tryd.func29, Tryd.ntmps29
  go_wp2_with fail
  refine (hc1.out _).mono ?_
  rintro e w1 ⟨v, rfl, hown, hb1⟩
  have hB1 := hB0.out.trans (hb1.mono hB0.out.size)
  have hX1 := hX0.out.below hb1
  have hw1 := RdW.of_own hown (Nat.le_refl _)
  clear hown hb1 hB0 hX0
  have hsz : w.heap.size < w1.heap.size := hX1.lt
  have hal := (Below.refl w1.heap.size w1).alloc (Nat.le_refl _) (.cells zero33 33)
  have hbx := Lib.hid (Box.new w1 33 zero33)
  have hbr := Lib.hid (hX1.below hal)
  have hW0 := Lib.hid (hB1.trans (hal.mono hB1.size))
  have hw0 := Lib.hid (hw1.below hal)
  clear hB1 hX1 hw1 hal hc1
  obtain ⟨va, vc, rfl⟩ := hw0.out.form
  go_upto_block 0 with fail
  generalize w1.alloc (.cells #[.int .i64 0, .slice none 0 0, .int .i64 0, .int .i64 0, .int .i64 0, .slice none 0 0] 33) = W0 at hbx hbr hW0 hw0 ⊢
  generalize w1.heap.size = b at hbx hbr hW0 hw0 hsz ⊢
  go_cut [6, 7] (fun o' k' wx => ASt w w.heap.size b (Tr.abuildR s ws) k' o' wx)
  case first =>
    have hlb := hbx.out.lt
    have hlh := hbr.out.lt
    obtain ⟨b', o, cap, hv, hcap, hb'b, hb'W, hcell⟩ := hw0.out.at hne
    cases hv
    have hx0 : ws.getD 0 [] = ws[0] := by rw [List.getD_eq_getElem?_getD, List.getElem?_eq_getElem hne]; rfl
    obtain ⟨x, hxe⟩ : ∃ x, ws[0] = x := ⟨_, rfl⟩
    have c0 := hcell 0 x (by rw [← hxe]; exact List.getElem?_eq_getElem hne)
    rw [Nat.add_zero] at c0
    rw [hxe] at hx0
    have hxr : ws = x :: ws.tail := by
      cases ws with
      | nil => simp at hne
      | cons y r => simp only [List.getElem_cons_zero] at hxe; rw [hxe]; rfl
    replace hxe := Lib.hid hxe
    replace hxr := Lib.hid hxr
    replace hcell := Lib.hid hcell
    by_cases hok : s = [111, 107]
    · have e0 : (s == ([111, 107] : List UInt8)) = true := by rw [hok]; rfl
      have hab := Lib.hid (show Tr.abuildR s ws = ((0, Tr.resZero), true) by unfold Tr.abuildR; rw [if_pos hok])
      replace hok := Lib.hid hok
      replace hx0 := Lib.hid hx0
      go_wp2_with fail
      go_meet
      exact aSt_mk hab.out rfl rfl hbx.out (World.ownsRow_nil _ _ _ _) (World.ownsRow_nil _ _ _ _) hbr.out hW0.out
    have e0 : (s == ([111, 107] : List UInt8)) = false := beq_eq_false_iff_ne.2 hok
    by_cases h0 : x = Tr.wError
    · have hx := h0
      clear h0
      by_cases hl : ws.length = 2
      · have hge2 : 2 ≤ ws.length := by omega
        obtain ⟨X1, hX1⟩ : ∃ X, ws[1]? = some X := ⟨_, List.getElem?_eq_getElem (by omega)⟩
        have c1 := hcell.out 1 X1 hX1
        have hg1 : ws.getD 1 [] = X1 := by rw [List.getD_eq_getElem?_getD, hX1]; rfl
        have hl1 : X1.length ≤ 4000000 := hwx.out X1 (List.mem_of_getElem? hX1)
        replace hX1 := Lib.hid hX1
        have hn1 := fun W hW => number_any X1 W hW hl1
        obtain ⟨⟨N1, o1⟩, eN1⟩ : ∃ q, Tr.pnum X1 = q := ⟨_, rfl⟩
        rw [eN1] at hn1
        replace hn1 := Lib.hid hn1
        have hab := Lib.hid (show Tr.abuildR s ws = ((0, ⟨N1, [], 0, 0, 0, []⟩), o1 && N1 != 0) by unfold Tr.abuildR; rw [if_neg hok, hx0, hg1, eN1, if_pos ⟨hx, hl⟩])
        have b0 : (x == ([101, 114, 114, 111, 114] : List UInt8)) = true := by rw [hx]; rfl
        have b1 : (x == ([100, 97, 116, 97] : List UInt8)) = false := by rw [hx]; rfl
        have b2 : (x == ([115, 116, 97, 116] : List UInt8)) = false := by rw [hx]; rfl
        have b3 : (x == ([108, 105, 115, 116] : List UInt8)) = false := by rw [hx]; rfl
        replace hx := Lib.hid hx
        have l2 : ((ws.length : Int) == 2) = true := by rw [beq_iff_eq]; omega
        replace hok := Lib.hid hok
        replace hx0 := Lib.hid hx0
        replace eN1 := Lib.hid eN1
        replace hg1 := Lib.hid hg1
        replace hl := Lib.hid hl
        go_wp2_with fail
        refine (hn1.out _ (hP.out.below hW0.out)).mono ?_
        rintro e wn ⟨rfl, hbn⟩
        have bx1 := hbx.out.below hbn
        have br1 := hbr.out.below hbn
        have bw1 := hW0.out.trans (hbn.mono hW0.out.size)
        clear hbn
        have cs1 := bx1.get 0 _ rfl
        have fs1 := bx1.frozen 0
        have sx1 := Lib.hid (show Box (wn.setCell ⟨b, 0, none⟩ (.int .i64 N1)) b 33 #[.int .i64 N1, .slice none 0 0, .int .i64 0, .int .i64 0, .int .i64 0, .slice none 0 0] by simpa using bx1.set 0 (.int .i64 N1))
        have sr1 := Lib.hid (br1.setFar ⟨b, 0, none⟩ (.int .i64 N1) (by show b ≠ w.heap.size; omega))
        have sW1 := Lib.hid (bw1.setCell (p := ⟨b, 0, none⟩) (by show w.heap.size ≤ b; omega) (.int .i64 N1))
        replace bx1 := Lib.hid bx1
        replace br1 := Lib.hid br1
        replace bw1 := Lib.hid bw1
        cases o1
        all_goals
          go_wp2_with fail
          go_meet
          exact aSt_mk hab.out rfl rfl sx1.out (World.ownsRow_nil _ _ _ _) (World.ownsRow_nil _ _ _ _) sr1.out sW1.out
      · have hab := Lib.hid (show Tr.abuildR s ws = ((0, Tr.resZero), false) by unfold Tr.abuildR; rw [if_neg hok, hx0, if_neg (fun h => hl h.2), if_neg (fun h => absurd (hx.symm.trans h.1) (by decide)), if_neg (fun h => absurd (hx.symm.trans h.1) (by decide)), if_neg (fun h => absurd (hx.symm.trans h) (by decide))])
        have b0 : (x == ([101, 114, 114, 111, 114] : List UInt8)) = true := by rw [hx]; rfl
        have b1 : (x == ([100, 97, 116, 97] : List UInt8)) = false := by rw [hx]; rfl
        have b2 : (x == ([115, 116, 97, 116] : List UInt8)) = false := by rw [hx]; rfl
        have b3 : (x == ([108, 105, 115, 116] : List UInt8)) = false := by rw [hx]; rfl
        replace hx := Lib.hid hx
        have l2 : ((ws.length : Int) == 2) = false := by rw [beq_eq_false_iff_ne]; omega
        replace hok := Lib.hid hok
        replace hx0 := Lib.hid hx0
        replace hl := Lib.hid hl
        go_wp2_with fail
        go_meet
        exact aSt_mk hab.out rfl rfl hbx.out (World.ownsRow_nil _ _ _ _) (World.ownsRow_nil _ _ _ _) hbr.out hW0.out
    by_cases h1 : x = Tr.wData
    · have hx := h1
      clear h1
      clear h0
      by_cases hl : ws.length = 2
      · have hge2 : 2 ≤ ws.length := by omega
        obtain ⟨X1, hX1⟩ : ∃ X, ws[1]? = some X := ⟨_, List.getElem?_eq_getElem (by omega)⟩
        have c1 := hcell.out 1 X1 hX1
        have hg1 : ws.getD 1 [] = X1 := by rw [List.getD_eq_getElem?_getD, hX1]; rfl
        have hl1 : X1.length ≤ 4000000 := hwx.out X1 (List.mem_of_getElem? hX1)
        replace hX1 := Lib.hid hX1
        have hh1 := fun W => data_any X1 W hl1
        obtain ⟨q, hq⟩ : ∃ q, Tr.unhexesX X1 = q := ⟨_, rfl⟩
        rw [hq] at hh1
        replace hh1 := Lib.hid hh1
        have hab := Lib.hid (show Tr.abuildR s ws = ((9, ⟨0, q.getD [], 0, 0, 0, []⟩), q.isSome) by unfold Tr.abuildR; rw [if_neg hok, hx0, hg1, hq, if_neg (fun h => absurd (hx.symm.trans h.1) (by decide)), if_pos ⟨hx, hl⟩])
        have b0 : (x == ([101, 114, 114, 111, 114] : List UInt8)) = false := by rw [hx]; rfl
        have b1 : (x == ([100, 97, 116, 97] : List UInt8)) = true := by rw [hx]; rfl
        have b2 : (x == ([115, 116, 97, 116] : List UInt8)) = false := by rw [hx]; rfl
        have b3 : (x == ([108, 105, 115, 116] : List UInt8)) = false := by rw [hx]; rfl
        replace hx := Lib.hid hx
        have l2 : ((ws.length : Int) == 2) = true := by rw [beq_iff_eq]; omega
        replace hok := Lib.hid hok
        replace hx0 := Lib.hid hx0
        replace hq := Lib.hid hq
        replace hg1 := Lib.hid hg1
        replace hl := Lib.hid hl
        rcases q with _ | l
        · go_wp2_with fail
          refine (hh1.out _).mono ?_
          rintro e wn ⟨⟨dv, rfl, hown⟩, hbn⟩
          have bx1 := hbx.out.below hbn
          have br1 := hbr.out.below hbn
          have bw1 := hW0.out.trans (hbn.mono hW0.out.size)
          clear hbn
          obtain ⟨da, dc, rfl⟩ := (Rd.of_own (enc := byteV) (xs := ([] : List UInt8)) hown).len
          have cs1 := bx1.get 1 _ rfl
          have fs1 := bx1.frozen 1
          have sx1 := Lib.hid (show Box (wn.setCell ⟨b, 1, none⟩ (.slice da ([] : List UInt8).length dc)) b 33 #[.int .i64 0, .slice da ([] : List UInt8).length dc, .int .i64 0, .int .i64 0, .int .i64 0, .slice none 0 0] by simpa using bx1.set 1 (.slice da ([] : List UInt8).length dc))
          have sr1 := Lib.hid (br1.setFar ⟨b, 1, none⟩ (.slice da ([] : List UInt8).length dc) (by show b ≠ w.heap.size; omega))
          have sW1 := Lib.hid (bw1.setCell (p := ⟨b, 1, none⟩) (by show w.heap.size ≤ b; omega) (.slice da ([] : List UInt8).length dc))
          have sown := Lib.hid (own_base (base' := b + 1) (own_setFar (a := ⟨b, 1, none⟩) hown hlb (.slice da ([] : List UInt8).length dc)) hlb)
          replace bx1 := Lib.hid bx1
          replace br1 := Lib.hid br1
          replace bw1 := Lib.hid bw1
          replace hown := Lib.hid hown
          go_wp2_with fail
          go_meet
          exact aSt_mk hab.out rfl rfl sx1.out sown.out (World.ownsRow_nil _ _ _ _) sr1.out sW1.out
        · go_wp2_with fail
          refine (hh1.out _).mono ?_
          rintro e wn ⟨⟨dv, rfl, hown⟩, hbn⟩
          have bx1 := hbx.out.below hbn
          have br1 := hbr.out.below hbn
          have bw1 := hW0.out.trans (hbn.mono hW0.out.size)
          clear hbn
          obtain ⟨da, dc, rfl⟩ := (Rd.of_own (enc := byteV) (xs := l) hown).len
          have cs1 := bx1.get 1 _ rfl
          have fs1 := bx1.frozen 1
          have sx1 := Lib.hid (show Box (wn.setCell ⟨b, 1, none⟩ (.slice da l.length dc)) b 33 #[.int .i64 0, .slice da l.length dc, .int .i64 0, .int .i64 0, .int .i64 0, .slice none 0 0] by simpa using bx1.set 1 (.slice da l.length dc))
          have sr1 := Lib.hid (br1.setFar ⟨b, 1, none⟩ (.slice da l.length dc) (by show b ≠ w.heap.size; omega))
          have sW1 := Lib.hid (bw1.setCell (p := ⟨b, 1, none⟩) (by show w.heap.size ≤ b; omega) (.slice da l.length dc))
          have sown := Lib.hid (own_base (base' := b + 1) (own_setFar (a := ⟨b, 1, none⟩) hown hlb (.slice da l.length dc)) hlb)
          replace bx1 := Lib.hid bx1
          replace br1 := Lib.hid br1
          replace bw1 := Lib.hid bw1
          replace hown := Lib.hid hown
          go_wp2_with fail
          go_meet
          exact aSt_mk hab.out rfl rfl sx1.out sown.out (World.ownsRow_nil _ _ _ _) sr1.out sW1.out
      · have hab := Lib.hid (show Tr.abuildR s ws = ((0, Tr.resZero), false) by unfold Tr.abuildR; rw [if_neg hok, hx0, if_neg (fun h => absurd (hx.symm.trans h.1) (by decide)), if_neg (fun h => hl h.2), if_neg (fun h => absurd (hx.symm.trans h.1) (by decide)), if_neg (fun h => absurd (hx.symm.trans h) (by decide))])
        have b0 : (x == ([101, 114, 114, 111, 114] : List UInt8)) = false := by rw [hx]; rfl
        have b1 : (x == ([100, 97, 116, 97] : List UInt8)) = true := by rw [hx]; rfl
        have b2 : (x == ([115, 116, 97, 116] : List UInt8)) = false := by rw [hx]; rfl
        have b3 : (x == ([108, 105, 115, 116] : List UInt8)) = false := by rw [hx]; rfl
        replace hx := Lib.hid hx
        have l2 : ((ws.length : Int) == 2) = false := by rw [beq_eq_false_iff_ne]; omega
        replace hok := Lib.hid hok
        replace hx0 := Lib.hid hx0
        replace hl := Lib.hid hl
        go_wp2_with fail
        go_meet
        exact aSt_mk hab.out rfl rfl hbx.out (World.ownsRow_nil _ _ _ _) (World.ownsRow_nil _ _ _ _) hbr.out hW0.out
    by_cases h2 : x = Tr.wStat
    · have hx := h2
      clear h2
      clear h0
      clear h1
      by_cases hl : ws.length = 4
      · have hge4 : 4 ≤ ws.length := by omega
        obtain ⟨X1, hX1⟩ : ∃ X, ws[1]? = some X := ⟨_, List.getElem?_eq_getElem (by omega)⟩
        have c1 := hcell.out 1 X1 hX1
        have hg1 : ws.getD 1 [] = X1 := by rw [List.getD_eq_getElem?_getD, hX1]; rfl
        have hl1 : X1.length ≤ 4000000 := hwx.out X1 (List.mem_of_getElem? hX1)
        replace hX1 := Lib.hid hX1
        have hn1 := fun W hW => number_any X1 W hW hl1
        obtain ⟨⟨N1, o1⟩, eN1⟩ : ∃ q, Tr.pnum X1 = q := ⟨_, rfl⟩
        rw [eN1] at hn1
        replace hn1 := Lib.hid hn1
        obtain ⟨X2, hX2⟩ : ∃ X, ws[2]? = some X := ⟨_, List.getElem?_eq_getElem (by omega)⟩
        have c2 := hcell.out 2 X2 hX2
        have hg2 : ws.getD 2 [] = X2 := by rw [List.getD_eq_getElem?_getD, hX2]; rfl
        have hl2 : X2.length ≤ 4000000 := hwx.out X2 (List.mem_of_getElem? hX2)
        replace hX2 := Lib.hid hX2
        have hn2 := fun W hW => number_any X2 W hW hl2
        obtain ⟨⟨N2, o2⟩, eN2⟩ : ∃ q, Tr.pnum X2 = q := ⟨_, rfl⟩
        rw [eN2] at hn2
        replace hn2 := Lib.hid hn2
        obtain ⟨X3, hX3⟩ : ∃ X, ws[3]? = some X := ⟨_, List.getElem?_eq_getElem (by omega)⟩
        have c3 := hcell.out 3 X3 hX3
        have hg3 : ws.getD 3 [] = X3 := by rw [List.getD_eq_getElem?_getD, hX3]; rfl
        have hl3 : X3.length ≤ 4000000 := hwx.out X3 (List.mem_of_getElem? hX3)
        replace hX3 := Lib.hid hX3
        have hn3 := fun W hW => number_any X3 W hW hl3
        obtain ⟨⟨N3, o3⟩, eN3⟩ : ∃ q, Tr.pnum X3 = q := ⟨_, rfl⟩
        rw [eN3] at hn3
        replace hn3 := Lib.hid hn3
        have hab := Lib.hid (show Tr.abuildR s ws = ((10, ⟨0, [], N1, N2, N3, []⟩), o1 && o2 && o3) by unfold Tr.abuildR; rw [if_neg hok, hx0, hg1, hg2, hg3, eN1, eN2, eN3, if_neg (fun h => absurd (hx.symm.trans h.1) (by decide)), if_neg (fun h => absurd (hx.symm.trans h.1) (by decide)), if_pos ⟨hx, hl⟩])
        have b0 : (x == ([101, 114, 114, 111, 114] : List UInt8)) = false := by rw [hx]; rfl
        have b1 : (x == ([100, 97, 116, 97] : List UInt8)) = false := by rw [hx]; rfl
        have b2 : (x == ([115, 116, 97, 116] : List UInt8)) = true := by rw [hx]; rfl
        have b3 : (x == ([108, 105, 115, 116] : List UInt8)) = false := by rw [hx]; rfl
        replace hx := Lib.hid hx
        have l4 : ((ws.length : Int) == 4) = true := by rw [beq_iff_eq]; omega
        replace hok := Lib.hid hok
        replace hx0 := Lib.hid hx0
        replace eN1 := Lib.hid eN1
        replace hg1 := Lib.hid hg1
        replace eN2 := Lib.hid eN2
        replace hg2 := Lib.hid hg2
        replace eN3 := Lib.hid eN3
        replace hg3 := Lib.hid hg3
        replace hl := Lib.hid hl
        go_wp2_with fail
        refine (hn1.out _ (hP.out.below hW0.out)).mono ?_
        rintro e v1 ⟨rfl, hbn⟩
        rw [← hbn.cell (p := ⟨b', o + 2, none⟩) (by show b' < _; omega)] at c2
        rw [← hbn.cell (p := ⟨b', o + 3, none⟩) (by show b' < _; omega)] at c3
        have bx1 := Lib.hid (hbx.out.below hbn)
        have br1 := Lib.hid (hbr.out.below hbn)
        have bw1 := Lib.hid (hW0.out.trans (hbn.mono hW0.out.size))
        have hz1 := hbn.size
        clear hbn
        go_wp2_with fail
        refine (hn2.out _ (hP.out.below bw1.out)).mono ?_
        rintro e v2 ⟨rfl, hbn⟩
        rw [← hbn.cell (p := ⟨b', o + 3, none⟩) (by show b' < _; omega)] at c3
        have bx2 := Lib.hid (bx1.out.below hbn)
        have br2 := Lib.hid (br1.out.below hbn)
        have bw2 := Lib.hid (bw1.out.trans (hbn.mono bw1.out.size))
        have hz2 := hbn.size
        clear hbn
        go_wp2_with fail
        refine (hn3.out _ (hP.out.below bw2.out)).mono ?_
        rintro e v3 ⟨rfl, hbn⟩
        have bx3 := Lib.hid (bx2.out.below hbn)
        have br3 := Lib.hid (br2.out.below hbn)
        have bw3 := Lib.hid (bw2.out.trans (hbn.mono bw2.out.size))
        have hz3 := hbn.size
        clear hbn
        have cs2 := bx3.out.get 2 _ rfl
        have fs2 := bx3.out.frozen 2
        have cs3 := bx3.out.get 3 _ rfl
        have fs3 := bx3.out.frozen 3
        have cs4 := bx3.out.get 4 _ rfl
        have fs4 := bx3.out.frozen 4
        have sx1 := Lib.hid (show Box (((v3.setCell ⟨b, 2, none⟩ (.int .i64 N1)).setCell ⟨b, 3, none⟩ (.int .i64 N2)).setCell ⟨b, 4, none⟩ (.int .i64 N3)) b 33 #[.int .i64 0, .slice none 0 0, .int .i64 N1, .int .i64 N2, .int .i64 N3, .slice none 0 0] by simpa using ((bx3.out.set 2 (.int .i64 N1)).set 3 (.int .i64 N2)).set 4 (.int .i64 N3))
        have sr1 := Lib.hid (show Box (((v3.setCell ⟨b, 2, none⟩ (.int .i64 N1)).setCell ⟨b, 3, none⟩ (.int .i64 N2)).setCell ⟨b, 4, none⟩ (.int .i64 N3)) w.heap.size 33 zero33 from ((br3.out.setFar _ _ (by show b ≠ w.heap.size; omega)).setFar _ _ (by show b ≠ w.heap.size; omega)).setFar _ _ (by show b ≠ w.heap.size; omega))
        have sW1 := Lib.hid (show Below w.heap.size w (((v3.setCell ⟨b, 2, none⟩ (.int .i64 N1)).setCell ⟨b, 3, none⟩ (.int .i64 N2)).setCell ⟨b, 4, none⟩ (.int .i64 N3)) from ((bw3.out.setCell (p := ⟨b, 2, none⟩) (by show w.heap.size ≤ b; omega) _).setCell (p := ⟨b, 3, none⟩) (by show w.heap.size ≤ b; omega) _).setCell (p := ⟨b, 4, none⟩) (by show w.heap.size ≤ b; omega) _)
        cases o1 <;> cases o2 <;> cases o3
        all_goals
          go_wp2_with fail
          go_meet
          exact aSt_mk hab.out rfl rfl sx1.out (World.ownsRow_nil _ _ _ _) (World.ownsRow_nil _ _ _ _) sr1.out sW1.out
      · have hab := Lib.hid (show Tr.abuildR s ws = ((0, Tr.resZero), false) by unfold Tr.abuildR; rw [if_neg hok, hx0, if_neg (fun h => absurd (hx.symm.trans h.1) (by decide)), if_neg (fun h => absurd (hx.symm.trans h.1) (by decide)), if_neg (fun h => hl h.2), if_neg (fun h => absurd (hx.symm.trans h) (by decide))])
        have b0 : (x == ([101, 114, 114, 111, 114] : List UInt8)) = false := by rw [hx]; rfl
        have b1 : (x == ([100, 97, 116, 97] : List UInt8)) = false := by rw [hx]; rfl
        have b2 : (x == ([115, 116, 97, 116] : List UInt8)) = true := by rw [hx]; rfl
        have b3 : (x == ([108, 105, 115, 116] : List UInt8)) = false := by rw [hx]; rfl
        replace hx := Lib.hid hx
        have l4 : ((ws.length : Int) == 4) = false := by rw [beq_eq_false_iff_ne]; omega
        replace hok := Lib.hid hok
        replace hx0 := Lib.hid hx0
        replace hl := Lib.hid hl
        go_wp2_with fail
        go_meet
        exact aSt_mk hab.out rfl rfl hbx.out (World.ownsRow_nil _ _ _ _) (World.ownsRow_nil _ _ _ _) hbr.out hW0.out
    by_cases h3 : x = Tr.wList
    · have hx := h3
      clear h3
      clear h0
      clear h1
      clear h2
      have hlen : ws.length = ws.tail.length + 1 := by rw [List.length_tail]; omega
      have hab := Lib.hid (show Tr.abuildR s ws = ((11, ⟨0, [], 0, 0, 0, ws.tail.map fun w => (Tr.entR w).1⟩), ws.tail.all fun w => (Tr.entR w).2) by unfold Tr.abuildR; rw [if_neg hok, hx0, if_neg (fun h => absurd (hx.symm.trans h.1) (by decide)), if_neg (fun h => absurd (hx.symm.trans h.1) (by decide)), if_neg (fun h => absurd (hx.symm.trans h.1) (by decide)), if_pos hx])
      have b0 : (x == ([101, 114, 114, 111, 114] : List UInt8)) = false := by rw [hx]; rfl
      have b1 : (x == ([100, 97, 116, 97] : List UInt8)) = false := by rw [hx]; rfl
      have b2 : (x == ([115, 116, 97, 116] : List UInt8)) = false := by rw [hx]; rfl
      have b3 : (x == ([108, 105, 115, 116] : List UInt8)) = true := by rw [hx]; rfl
      replace hx := Lib.hid hx
      replace hok := Lib.hid hok
      replace hx0 := Lib.hid hx0
      replace hlen := Lib.hid hlen
      obtain ⟨i0, hi0, hz0, hz1, hz2⟩ := info_parts infoEnt
      go_wp2_with fail
      go_loopw [6, 16] (fun o' k' wr => ∃ (i j : Nat) (la : Option Addr) (lc : Nat), j = i + 1 ∧ i ≤ ws.tail.length ∧ k' = .int .i64 j ∧ o' = .bool ((ws.tail.take i).all fun w => (Tr.entR w).2) ∧ Box wr b 33 #[.int .i64 0, .slice none 0 0, .int .i64 0, .int .i64 0, .int .i64 0, .slice la i lc] ∧ wr.ownsRow (b + 1) 39 3 (.slice la i lc) i (cellsE ((ws.tail.take i).map fun w => (Tr.entR w).1)) ∧ RdW wr (.slice (some ⟨b', o, none⟩) ws.length vc) ws b ∧ Box wr w.heap.size 33 zero33 ∧ Below w.heap.size w wr)
        (fun _ k _ => ws.length - (intOf k).toNat)
      case atStart => exact ⟨0, 1, none, 0, rfl, Nat.zero_le _, rfl, by simp, hbx.out, World.ownsRow_nil _ _ _ _, hw0.out, hbr.out, hW0.out⟩
      case round =>
        obtain ⟨i, j, la, lc, hj, hi, rfl, rfl, bx0, ol0, ww0, br0, bw0⟩ := hrel
        have hlx := bx0.lt
        clear c0 hcell hb'W
        by_cases hlt : i < ws.tail.length
        · obtain ⟨y, hy⟩ : ∃ y, ws.tail[i]? = some y := ⟨_, List.getElem?_eq_getElem hlt⟩
          have hy1 : ws[j]? = some y := by rw [List.getElem?_tail] at hy; rw [hj]; exact hy
          obtain ⟨_, _, _, hv2, _, hb'x, hb'W, hcell⟩ := ww0.at hne
          cases hv2
          have ct := hcell j y hy1
          clear hcell
          have hyl := hwx.out y (List.mem_of_getElem? hy1)
          have htk := Lib.hid (show ws.tail.take (i + 1) = ws.tail.take i ++ [y] by rw [List.take_add_one, hy]; rfl)
          have hE := fun w hP => entryr_any y w hP hyl
          obtain ⟨⟨⟨en, ei, ek⟩, eo⟩, hEe⟩ : ∃ q, Tr.entR y = q := ⟨_, rfl⟩
          rw [hEe] at hE
          replace hE := Lib.hid hE
          replace hEe := Lib.hid hEe
          replace hy := Lib.hid hy
          replace hy1 := Lib.hid hy1
          have hI0 : (0 : Int) ≤ (j : Int) := by omega
          have hI1 : (j : Int) < (ws.length : Int) := by have := hlen.out; omega
          have hI2 : j < ws.length := by have := hlen.out; omega
          have hi4 : i ≤ 4000001 := by omega
          replace hlt := Lib.hid hlt
          replace hi := Lib.hid hi
          replace hj := Lib.hid hj
          replace bx0 := Lib.hid bx0
          replace ol0 := Lib.hid ol0
          replace ww0 := Lib.hid ww0
          replace br0 := Lib.hid br0
          replace bw0 := Lib.hid bw0
          go_wp2_with fail
          refine (hE.out _ (hP.out.below bw0.out)).mono ?_
          rintro e w2 ⟨rfl, hb2⟩
          have bx1 := bx0.out.below hb2
          have ol1 := own_below ol0.out hb2
          have ww1 := Lib.hid (ww0.out.below hb2)
          have br1 := Lib.hid (br0.out.below hb2)
          have bw1 := Lib.hid (bw0.out.trans (hb2.mono bw0.out.size))
          have hs2 := hb2.size
          clear hb2
          have cs5 := bx1.get 5 _ rfl
          have fs5 := bx1.frozen 5
          have hlx1 := bx1.lt
          replace bx1 := Lib.hid bx1
          replace ol1 := Lib.hid ol1
          dsimp only at *
          obtain ⟨A, hA⟩ : ∃ A, ((ws.tail.take i).all fun w => (Tr.entR w).2) = A := ⟨_, rfl⟩
          rw [hA]
          replace hA := Lib.hid hA
          go_upto_region 27 with fail
          have hal := (Below.refl w2.heap.size w2).alloc (Nat.le_refl _) (.cells #[.string (S en), .int .i64 ei, .int .i64 ek] 39)
          have bx3 := bx1.out.below hal
          have ol3 := Lib.hid (own_below ol1.out hal)
          have ww3 := Lib.hid (ww1.out.below hal)
          have br3 := Lib.hid (br1.out.below hal)
          have bw3 := Lib.hid (bw1.out.trans (hal.mono bw1.out.size))
          have bn3 := Box.new w2 39 #[.string (S en), .int .i64 ei, .int .i64 ek]
          clear hal
          generalize w2.alloc (.cells #[.string (S en), .int .i64 ei, .int .i64 ek] 39) = w3 at bx3 ol3 ww3 br3 bw3 bn3 ⊢
          have hlx3 := bx3.lt
          have hln3 := bn3.lt
          have hsw3 := bw3.out.size
          have cs5' := bx3.get 5 _ rfl
          have cn0 := bn3.get 0 _ rfl
          have cn1 := bn3.get 1 _ rfl
          have cn2 := bn3.get 2 _ rfl
          replace bx3 := Lib.hid bx3
          replace bn3 := Lib.hid bn3
          clear bx1 ol1 ww1 br1 bw1 cs5 fs5 bx0 ol0 ww0 br0 bw0
          cases A
          all_goals
            go_wp2_with (at_builtin; refine wpList_append_lies _ rfl _ _ 31 rfl (b + 1) 39 i0 (.agg #[.string ⟨#[]⟩, .int .i64 0, .int .i64 0]) 3 32 Tryd.underlying31 hi0 hz0 hz1 hz2 rfl (by decide) (.slice la i lc) i (cellsE ((ws.tail.take i).map fun w => (Tr.entR w).1)) rfl (ol3.out.alloc _) ⟨w3.heap.size, 0, none⟩ 1 1 [.string (S en), .int .i64 ei, .int .i64 ek] rfl rfl (World.news_of_block (heap_alloc_new w3 (.cells #[.string (S en), .int .i64 ei, .int .i64 ek] 39))) (by simp [Value.oneCell']) (by omega) (by unfold maxLen; omega) (by omega) (by rw [World.size_alloc]; omega) _ rfl ?_; intro vg vc' w5 hown5 hgrow _ _; (have hne5 : ∀ k, some k = (Value.slice la i lc).ownBlock → b + 1 ≤ k := fun k h => (ol3.out.lt k h.symm).1); (have bx5 := (bx3.out.alloc (.cells #[.string (S en), .int .i64 ei, .int .i64 ek] 39)).grown' hgrow (fun h => by have := hne5 _ h; omega)); (have ww5 := (ww3.out.below ((Below.refl _ _).alloc (Nat.le_refl _) (.cells #[.string (S en), .int .i64 ei, .int .i64 ek] 39))).grown hgrow (fun k h => by have := hne5 k h; omega)); (have br5 := (br3.out.alloc (.cells #[.string (S en), .int .i64 ei, .int .i64 ek] 39)).grown' hgrow (fun h => by have := hne5 _ h; omega)); (have bw5 : Below w.heap.size w w5 := (bw3.out.alloc (by omega) _).grown hgrow (by rw [World.size_alloc]; omega) (fun k hk => by have := (ol3.out.lt k hk).1; omega)); (have cs6 := bx5.get 5 _ rfl); (have fs6 := bx5.frozen 5))
            go_roundw
            case rel =>
              refine ⟨i + 1, j + 1, some ⟨vg, 0, none⟩, vc', by have := hj.out; omega, hlt.out, by go_num, by rw [htk.out, List.all_append, hA.out]; simp [hEe.out], by simpa using bx5.set 5 (.slice (some ⟨vg, 0, none⟩) (i + 1) vc'), ?_, ww5.setCell 5 _, br5.setFar _ _ (by show b ≠ w.heap.size; omega), bw5.setCell (p := ⟨b, 5, none⟩) (by show w.heap.size ≤ b; omega) _⟩
              refine own_setFar (a := ⟨b, 5, none⟩) ?_ (Nat.lt_succ_self b) _
              rw [htk.out, List.map_append, List.map_cons, List.map_nil, cellsE_snoc', hEe.out]
              exact hown5
            case measure => simp [intOf]; omega
        · have hie : i = ws.tail.length := by omega
          have hI1 : (ws.length : Int) ≤ (j : Int) := by have := hlen.out; omega
          have hI2 : ws.length ≤ j := by omega
          have okf : ((ws.tail.take i).all fun w => (Tr.entR w).2) = (ws.tail.all fun w => (Tr.entR w).2) := by rw [hie, List.take_length]
          rw [okf]
          clear okf
          have bxf := Lib.hid (show Box wr b 33 #[.int .i64 0, .slice none 0 0, .int .i64 0, .int .i64 0, .int .i64 0, .slice la (ws.tail.map fun w => (Tr.entR w).1).length lc] by rw [List.length_map, ← hie]; exact bx0)
          have olf := Lib.hid (show wr.ownsRow (b + 1) 39 3 (.slice la (ws.tail.map fun w => (Tr.entR w).1).length lc) (ws.tail.map fun w => (Tr.entR w).1).length (cellsE (ws.tail.map fun w => (Tr.entR w).1)) by
            rw [List.length_map]; rw [hie, List.take_length] at ol0; exact ol0)
          replace br0 := Lib.hid br0
          replace bw0 := Lib.hid bw0
          replace hie := Lib.hid hie
          clear bx0 ol0 hlt hi hj ww0
          go_wp2_with fail
          go_meet
          exact aSt_mk hab.out rfl rfl bxf.out (World.ownsRow_nil _ _ _ _) olf.out br0.out bw0.out
    have b0 : (x == ([101, 114, 114, 111, 114] : List UInt8)) = false := beq_eq_false_iff_ne.2 h0
    have b1 : (x == ([100, 97, 116, 97] : List UInt8)) = false := beq_eq_false_iff_ne.2 h1
    have b2 : (x == ([115, 116, 97, 116] : List UInt8)) = false := beq_eq_false_iff_ne.2 h2
    have b3 : (x == ([108, 105, 115, 116] : List UInt8)) = false := beq_eq_false_iff_ne.2 h3
    have hab := Lib.hid (show Tr.abuildR s ws = ((0, Tr.resZero), false) by unfold Tr.abuildR; rw [if_neg hok, hx0, if_neg (fun h => h0 h.1), if_neg (fun h => h1 h.1), if_neg (fun h => h2 h.1), if_neg h3])
    clear h0 h1 h2 h3
    replace hok := Lib.hid hok
    replace hx0 := Lib.hid hx0
    go_wp2_with fail
    go_meet
    exact aSt_mk hab.out rfl rfl hbx.out (World.ownsRow_nil _ _ _ _) (World.ownsRow_nil _ _ _ _) hbr.out hW0.out
  case rest =>
    clear hbx hbr hW0 hw0
    obtain ⟨rfl, rfl, ⟨dv, lv, bx, od, ol⟩, br, bw⟩ := hcut
    obtain ⟨fo, ff⟩ := abuildR_fit s ws hwm hwx.out
    obtain ⟨⟨⟨k, er, l, kd, ln, sz, xs⟩, okb⟩, hp⟩ : ∃ p, Tr.abuildR s ws = p := ⟨_, rfl⟩
    have hpr' := hpr.out
    rw [hp] at bx od ol fo ff hpr' ⊢
    dsimp only at bx od ol fo ff hpr' ⊢
    obtain ⟨da, dc, rfl⟩ := (Rd.of_own (enc := byteV) (xs := l) od).len
    obtain ⟨la, lc, rfl⟩ := (RdE.of_own ol).len
    have hA := Lib.hid (answerr_any k ⟨er, l, kd, ln, sz, xs⟩ (.slice da l.length dc) (.slice la xs.length lc) wc (hP.out.below bw) fo ff (Rd.of_own (enc := byteV) (xs := l) od) (RdE.of_own ol))
    obtain ⟨Y, hY⟩ : ∃ Y, Tr.answer k ⟨er, l, kd, ln, sz, xs⟩ = Y := ⟨_, rfl⟩
    rw [hY] at hA hpr'
    replace hY := Lib.hid hY
    replace hp := Lib.hid hp
    replace hpr' := Lib.hid hpr'
    have hsw := bw.size
    clear fo ff hpr
    cases okb with
    | false =>
      have hfin := Lib.hid (show Tr.parseAnsR s = none by rw [hpr'.out, if_neg]; rintro ⟨q1, -⟩; cases q1)
      clear hpr' hA
      have d0 := br.get 0 _ rfl
      have k0 := br.frozen 0
      have d1 := br.get 1 _ rfl
      have k1 := br.frozen 1
      have d2 := br.get 2 _ rfl
      have k2 := br.frozen 2
      have d3 := br.get 3 _ rfl
      have k3 := br.frozen 3
      have d4 := br.get 4 _ rfl
      have k4 := br.frozen 4
      have d5 := br.get 5 _ rfl
      have k5 := br.frozen 5
      replace br := Lib.hid br
      replace bw := Lib.hid bw
      replace bx := Lib.hid bx
      replace od := Lib.hid od
      replace ol := Lib.hid ol
      go_wp2_with fail
      obtain ⟨hp6, hb6⟩ := put6 br.out (.int .i64 0) (.slice none 0 0) (.int .i64 0) (.int .i64 0) (.int .i64 0) (.slice none 0 0) bw.out (Nat.le_refl _)
      refine bodyPost_ret (res29 hp6 rfl rfl) rfl ?_
      rw [hfin.out]
      exact ⟨_, _, rfl, World.ownsRow_nil _ _ _ _, World.ownsRow_nil _ _ _ _, hb6⟩
    | true =>
      have g0 := bx.get 0 _ rfl
      have g1 := bx.get 1 _ rfl
      have g2 := bx.get 2 _ rfl
      have g3 := bx.get 3 _ rfl
      have g4 := bx.get 4 _ rfl
      have g5 := bx.get 5 _ rfl
      replace br := Lib.hid br
      replace bw := Lib.hid bw
      replace bx := Lib.hid bx
      replace od := Lib.hid od
      replace ol := Lib.hid ol
      go_wp2_with fail
      refine hA.out.mono ?_
      rintro e w9 ⟨rfl, hb9⟩
      have bx9 := bx.out.below hb9
      have br9 := br.out.below hb9
      have bw9 := Lib.hid (bw.out.trans (hb9.mono hsw))
      have od9 := Lib.hid (own_below od.out hb9)
      have ol9 := Lib.hid (own_below ol.out hb9)
      clear hb9 g0 g1 g2 g3 g4 g5 bx br bw od ol hA
      have d0 := br9.get 0 _ rfl
      have k0 := br9.frozen 0
      have d1 := br9.get 1 _ rfl
      have k1 := br9.frozen 1
      have d2 := br9.get 2 _ rfl
      have k2 := br9.frozen 2
      have d3 := br9.get 3 _ rfl
      have k3 := br9.frozen 3
      have d4 := br9.get 4 _ rfl
      have k4 := br9.frozen 4
      have d5 := br9.get 5 _ rfl
      have k5 := br9.frozen 5
      have g0 := bx9.get 0 _ rfl
      have g1 := bx9.get 1 _ rfl
      have g2 := bx9.get 2 _ rfl
      have g3 := bx9.get 3 _ rfl
      have g4 := bx9.get 4 _ rfl
      have g5 := bx9.get 5 _ rfl
      replace bx9 := Lib.hid bx9
      replace br9 := Lib.hid br9
      by_cases hys : Y = s
      · have e1 : (Y == s) = true := by simpa using hys
        have hfin := Lib.hid (show Tr.parseAnsR s = some ⟨er, l, kd, ln, sz, xs⟩ by rw [hpr'.out, if_pos ⟨by trivial, hys⟩])
        clear hpr' hys
        go_wp2_with fail
        obtain ⟨hp6, hb6⟩ := put6 br9.out (.int .i64 er) (.slice da l.length dc) (.int .i64 kd) (.int .i64 ln) (.int .i64 sz) (.slice la xs.length lc) bw9.out (Nat.le_refl _)
        refine bodyPost_ret (res29 hp6 rfl rfl) rfl ?_
        rw [hfin.out]
        exact ⟨.slice da l.length dc, .slice la xs.length lc, rfl, own_base (own_put6 od9.out (show w.heap.size < b + 1 by omega) _ _ _ _ _ _) (by omega), own_base (own_put6 ol9.out (show w.heap.size < b + 1 by omega) _ _ _ _ _ _) (by omega), hb6⟩
      · have e1 : (Y == s) = false := by simpa using hys
        have hfin := Lib.hid (show Tr.parseAnsR s = none by rw [hpr'.out, if_neg]; rintro ⟨-, q1⟩; exact hys q1)
        clear hpr' hys
        go_wp2_with fail
        obtain ⟨hp6, hb6⟩ := put6 br9.out (.int .i64 0) (.slice none 0 0) (.int .i64 0) (.int .i64 0) (.int .i64 0) (.slice none 0 0) bw9.out (Nat.le_refl _)
        refine bodyPost_ret (res29 hp6 rfl rfl) rfl ?_
        rw [hfin.out]
        exact ⟨_, _, rfl, World.ownsRow_nil _ _ _ _, World.ownsRow_nil _ _ _ _, hb6⟩
end Go.Proofs.YtpoongljokbgcaaDoor
