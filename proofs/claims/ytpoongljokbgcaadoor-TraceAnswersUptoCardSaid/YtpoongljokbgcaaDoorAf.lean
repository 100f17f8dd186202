/- The walk of trace.ParseAnswer, an error, bytes (printed by wip/tools/parse15.py). -/
import Derived.Test.YtpoongljokbgcaaDoorAd
namespace Go.Proofs.YtpoongljokbgcaaDoor
open Go.RowKit
set_option maxRecDepth 100000 in
set_option maxHeartbeats 4000000 in
theorem pans_error (s : List UInt8) (w : World) (hG : Gl w) (hs : s.length ≤ 4000000) (ws : List (List UInt8)) (hws : Tr.spl 32 s = ws) (x : List UInt8) (ws' : List (List UInt8)) (hxw : ws = x :: ws') (hx : x = Tr.wError) (hl : ws.length = 2) :
    Calls Tryd.prog 15 #[.string (S s)] w (AnsRes (Tr.parseAns s) w) := by
  have hx0 : ws.getD 0 [] = x := by rw [hxw]; rfl
  have hwl : 1 ≤ ws.length := by rw [hxw]; simp
  have hwm : ws.length ≤ 4000001 := by rw [← hws]; exact Nat.le_trans (spl_len 32 s) (by omega)
  have hmem : ∀ i, (ws.getD i []).length ≤ 4000000 := fun i => by rw [← hws]; exact Nat.le_trans (getD_len 32 s i) hs
  obtain ⟨X1, hX1⟩ : ∃ X, ws.getD 1 [] = X := ⟨_, rfl⟩
  have hl1 : X1.length ≤ 4000000 := hX1 ▸ hmem 1
  have hn1 := fun W => parseNum_any X1 W (by omega)
  have hN1 := pnum_in X1
  obtain ⟨⟨N1, o1⟩, eN1⟩ : ∃ P, Tr.pnum X1 = P := ⟨_, rfl⟩
  rw [eN1] at hN1 hn1
  replace hn1 := Lib.hid hn1
  replace hN1 := Lib.hid hN1
  dsimp only at hN1
  have hpa := Lib.hid (Tr.parse_pa (s := s) (k := 0) (r := ⟨N1, [], 0, 0, 0, []⟩) hws (by unfold Tr.abuild; rw [hx0, hX1, eN1, if_pos ⟨hx, hl⟩]))
  have hle2 : 2 ≤ ws.length := by omega
  have hge2 : ws.length ≤ 2 := by omega
  have b0 : (x == ([101, 114, 114, 111, 114] : List UInt8)) = true := by rw [hx]; rfl
  have b1 : (x == ([100, 97, 116, 97] : List UInt8)) = false := by rw [hx]; rfl
  have b2 : (x == ([115, 116, 97, 116] : List UInt8)) = false := by rw [hx]; rfl
  have b3 : (x == ([108, 105, 115, 116] : List UInt8)) = false := by rw [hx]; rfl
  have l2 : ((ws.length : Int) == 2) = true := by rw [beq_iff_eq]; omega
  replace hx := Lib.hid hx
  replace hl := Lib.hid hl
  clear hmem
  replace hX1 := Lib.hid hX1
  replace eN1 := Lib.hid eN1
  have hwn : 0 < ws.length := by omega
  replace hG := Lib.hid hG
  replace hxw := Lib.hid hxw
  replace hx0 := Lib.hid hx0
  go_enter Tryd.func15, Tryd.ntmps15
  go_wp2_with fail
  refine (split_S 32 s _ (hG.out.below ((Below.refl _ _).alloc (Nat.le_refl _) _)) (by omega)).mono ?_
  rintro e w1 ⟨rfl, rfl⟩
  rw [hws]
  replace hws := Lib.hid hws
  go_upto_region 4 with fail
  have hW0 : ∃ W0, (((w.alloc (.cells #[.int .i64 0, .slice none 0 0, .int .i64 0, .int .i64 0, .int .i64 0, .slice none 0 0] 33)).alloc (.cells (ws.map strV).toArray 9)).alloc (.cells #[.int .i64 0, .slice none 0 0, .int .i64 0, .int .i64 0, .int .i64 0, .slice none 0 0] 33)) = W0 ∧
      Box W0 (w.heap.size + 1 + 1) 33 #[.int .i64 0, .slice none 0 0, .int .i64 0, .int .i64 0, .int .i64 0, .slice none 0 0] ∧ Box W0 (w.heap.size + 1) 9 (ws.map strV).toArray ∧ Box W0 w.heap.size 33 #[.int .i64 0, .slice none 0 0, .int .i64 0, .int .i64 0, .int .i64 0, .slice none 0 0] ∧ Below w.heap.size w W0 :=
    ⟨_, rfl, by simpa using Box.new ((w.alloc (.cells #[.int .i64 0, .slice none 0 0, .int .i64 0, .int .i64 0, .int .i64 0, .slice none 0 0] 33)).alloc (.cells (ws.map strV).toArray 9)) 33 _,
      by have h := (Box.new (w.alloc (.cells #[.int .i64 0, .slice none 0 0, .int .i64 0, .int .i64 0, .int .i64 0, .slice none 0 0] 33)) 9 (ws.map strV).toArray); exact (by simpa using h : Box _ _ _ _).alloc _,
      ((Box.new w 33 _).alloc _).alloc _, (((Below.refl _ _).alloc (Nat.le_refl _) _).alloc (by simp) _).alloc (by simp; omega) _⟩
  obtain ⟨W0, hW0e, hbx, htx, hbr, hW0⟩ := hW0
  rw [hW0e]
  clear hW0e
  obtain ⟨b2, hb2⟩ : ∃ b, w.heap.size = b := ⟨_, rfl⟩
  rw [hb2] at hbx htx hbr ⊢
  have hsz0 := hW0.size
  have hlt0 := hbx.lt
  have ct0 := tx_get htx 0 (by omega)
  rw [hx0.out] at ct0
  have ct1 := tx_get htx 1 (by omega)
  rw [hX1.out] at ct1
  go_wp2_with fail
  refine (hn1.out _).mono ?_
  rintro e wn ⟨rfl, hbn⟩
  have bx1 := hbx.below hbn
  have br1 := hbr.below hbn
  have bw1 := hW0.trans (hbn.mono hsz0)
  have cs1 := bx1.get 0 _ rfl
  have fs1 := bx1.frozen 0
  have sx1 : Box (wn.setCell ⟨b2 + 1 + 1, 0, none⟩ (.int .i64 N1)) (b2 + 1 + 1) 33 #[.int .i64 N1, .slice none 0 0, .int .i64 0, .int .i64 0, .int .i64 0, .slice none 0 0] := by simpa using bx1.set 0 (.int .i64 N1)
  have sr1 : Box (wn.setCell ⟨b2 + 1 + 1, 0, none⟩ (.int .i64 N1)) b2 33 #[.int .i64 0, .slice none 0 0, .int .i64 0, .int .i64 0, .int .i64 0, .slice none 0 0] := br1.setFar _ _ (by show b2 + 1 + 1 ≠ b2; omega)
  have sW1 : Below w.heap.size w (wn.setCell ⟨b2 + 1 + 1, 0, none⟩ (.int .i64 N1)) := bw1.setCell (p := ⟨b2 + 1 + 1, 0, none⟩) (by show w.heap.size ≤ b2 + 1 + 1; omega) _
  have ca0 := sx1.get 0 _ rfl
  have ca1 := sx1.get 1 _ rfl
  have ca2 := sx1.get 2 _ rfl
  have ca3 := sx1.get 3 _ rfl
  have ca4 := sx1.get 4 _ rfl
  have ca5 := sx1.get 5 _ rfl
  have hans := Lib.hid (answer_any (0) (⟨N1, [], 0, 0, 0, []⟩) (.slice none 0 0) (.slice none 0 0) (wn.setCell ⟨b2 + 1 + 1, 0, none⟩ (.int .i64 N1)) ⟨by decide, by decide⟩ (res_plain N1 0 0 0 ⟨hN1.out, in64_zero, in64_zero, in64_zero⟩ []) (fits_plain N1 0 0 0 [] (by simp)) (Rd.nil _ _) (RdE.nil _))
  have hsz8 := sW1.size
  have hlt8 := sx1.lt
  go_wp2_with fail
  refine hans.out.mono ?_
  rintro e w9 ⟨rfl, hb9⟩
  have bx9 := sx1.below hb9
  have br9 := sr1.below hb9
  have bw9 := sW1.trans (hb9.mono hsz8)
  have od9 := own_below (World.ownsRow_nil _ (b2 + 1) 5 1) hb9
  have ol9 := own_below (World.ownsRow_nil _ (b2 + 1) 39 3) hb9
  clear ca0 ca1 ca2 ca3 ca4 ca5 hb9 hans
  have ca0 := bx9.get 0 _ rfl
  have ca1 := bx9.get 1 _ rfl
  have ca2 := bx9.get 2 _ rfl
  have ca3 := bx9.get 3 _ rfl
  have ca4 := bx9.get 4 _ rfl
  have ca5 := bx9.get 5 _ rfl
  have cr0 := br9.get 0 _ rfl
  have cr1 := br9.get 1 _ rfl
  have cr2 := br9.get 2 _ rfl
  have cr3 := br9.get 3 _ rfl
  have cr4 := br9.get 4 _ rfl
  have cr5 := br9.get 5 _ rfl
  have fr0 := br9.frozen 0
  have fr1 := br9.frozen 1
  have fr2 := br9.frozen 2
  have fr3 := br9.frozen 3
  have fr4 := br9.frozen 4
  have fr5 := br9.frozen 5
  obtain ⟨y, hy⟩ : ∃ y, Tr.answer (0) (⟨N1, [], 0, 0, 0, []⟩) = y := ⟨_, rfl⟩
  rw [hy] at hpa ⊢
  replace hy := Lib.hid hy
  by_cases hys : y = s
  · have hfin := Lib.hid (hpa.out.1 hys)
    have hy1 : (y == s) = true := by simpa using hys
    have hy2 : (y != s) = false := by simp [hys]
    replace hys := Lib.hid hys
    go_wp2_with fail
    obtain ⟨hp6, hb6⟩ := put6 br9 (.int .i64 N1) (.slice none 0 0) (.int .i64 0) (.int .i64 0) (.int .i64 0) (.slice none 0 0) bw9 (by omega)
    refine bodyPost_ret (res15 hp6 rfl rfl) rfl ?_
    rw [hfin.out]
    exact ⟨.slice none 0 0, .slice none 0 0, rfl, own_base (own_put6 od9 (Nat.lt_succ_self b2) _ _ _ _ _ _) (by omega), own_base (own_put6 ol9 (Nat.lt_succ_self b2) _ _ _ _ _ _) (by omega), hb6⟩
  · have hfin := Lib.hid (hpa.out.2 hys)
    have hy1 : (y == s) = false := by simpa using hys
    have hy2 : (y != s) = true := by simp [hys]
    replace hys := Lib.hid hys
    go_wp2_with fail
    obtain ⟨hp6, hb6⟩ := put6 br9 (.int .i64 0) (.slice none 0 0) (.int .i64 0) (.int .i64 0) (.int .i64 0) (.slice none 0 0) bw9 (by omega)
    refine bodyPost_ret (res15 hp6 rfl rfl) rfl ?_
    rw [hfin.out]
    exact ⟨_, _, rfl, World.ownsRow_nil _ _ _ _, World.ownsRow_nil _ _ _ _, hb6⟩
set_option maxRecDepth 100000 in
set_option maxHeartbeats 4000000 in
theorem pans_data (s : List UInt8) (w : World) (hG : Gl w) (hs : s.length ≤ 4000000) (ws : List (List UInt8)) (hws : Tr.spl 32 s = ws) (x : List UInt8) (ws' : List (List UInt8)) (hxw : ws = x :: ws') (hx : x = Tr.wData) (hl : ws.length = 2) :
    Calls Tryd.prog 15 #[.string (S s)] w (AnsRes (Tr.parseAns s) w) := by
  have hx0 : ws.getD 0 [] = x := by rw [hxw]; rfl
  have hwl : 1 ≤ ws.length := by rw [hxw]; simp
  have hwm : ws.length ≤ 4000001 := by rw [← hws]; exact Nat.le_trans (spl_len 32 s) (by omega)
  have hmem : ∀ i, (ws.getD i []).length ≤ 4000000 := fun i => by rw [← hws]; exact Nat.le_trans (getD_len 32 s i) hs
  obtain ⟨X1, hX1⟩ : ∃ X, ws.getD 1 [] = X := ⟨_, rfl⟩
  have hl1 : X1.length ≤ 4000000 := hX1 ▸ hmem 1
  have hx1 := fun W => unhexes_pair X1 W (by omega)
  have hD1 := Nat.le_trans (Tr.unhexesX_len X1) hl1
  obtain ⟨D1, eD1⟩ : ∃ P, (Tr.unhexesX X1).getD [] = P := ⟨_, rfl⟩
  rw [eD1] at hD1 hx1
  replace hx1 := Lib.hid hx1
  have hpa := Lib.hid (Tr.parse_pa (s := s) (k := 9) (r := ⟨0, D1, 0, 0, 0, []⟩) hws (by unfold Tr.abuild; rw [hx0, hX1, eD1, if_neg (fun h => absurd (hx.symm.trans h.1) (by decide)), if_pos ⟨hx, hl⟩]))
  have hle2 : 2 ≤ ws.length := by omega
  have hge2 : ws.length ≤ 2 := by omega
  have b0 : (x == ([101, 114, 114, 111, 114] : List UInt8)) = false := by rw [hx]; rfl
  have b1 : (x == ([100, 97, 116, 97] : List UInt8)) = true := by rw [hx]; rfl
  have b2 : (x == ([115, 116, 97, 116] : List UInt8)) = false := by rw [hx]; rfl
  have b3 : (x == ([108, 105, 115, 116] : List UInt8)) = false := by rw [hx]; rfl
  have l2 : ((ws.length : Int) == 2) = true := by rw [beq_iff_eq]; omega
  replace hx := Lib.hid hx
  replace hl := Lib.hid hl
  clear hmem
  replace hX1 := Lib.hid hX1
  replace eD1 := Lib.hid eD1
  have hwn : 0 < ws.length := by omega
  replace hG := Lib.hid hG
  replace hxw := Lib.hid hxw
  replace hx0 := Lib.hid hx0
  go_enter Tryd.func15, Tryd.ntmps15
  go_wp2_with fail
  refine (split_S 32 s _ (hG.out.below ((Below.refl _ _).alloc (Nat.le_refl _) _)) (by omega)).mono ?_
  rintro e w1 ⟨rfl, rfl⟩
  rw [hws]
  replace hws := Lib.hid hws
  go_upto_region 4 with fail
  have hW0 : ∃ W0, (((w.alloc (.cells #[.int .i64 0, .slice none 0 0, .int .i64 0, .int .i64 0, .int .i64 0, .slice none 0 0] 33)).alloc (.cells (ws.map strV).toArray 9)).alloc (.cells #[.int .i64 0, .slice none 0 0, .int .i64 0, .int .i64 0, .int .i64 0, .slice none 0 0] 33)) = W0 ∧
      Box W0 (w.heap.size + 1 + 1) 33 #[.int .i64 0, .slice none 0 0, .int .i64 0, .int .i64 0, .int .i64 0, .slice none 0 0] ∧ Box W0 (w.heap.size + 1) 9 (ws.map strV).toArray ∧ Box W0 w.heap.size 33 #[.int .i64 0, .slice none 0 0, .int .i64 0, .int .i64 0, .int .i64 0, .slice none 0 0] ∧ Below w.heap.size w W0 :=
    ⟨_, rfl, by simpa using Box.new ((w.alloc (.cells #[.int .i64 0, .slice none 0 0, .int .i64 0, .int .i64 0, .int .i64 0, .slice none 0 0] 33)).alloc (.cells (ws.map strV).toArray 9)) 33 _,
      by have h := (Box.new (w.alloc (.cells #[.int .i64 0, .slice none 0 0, .int .i64 0, .int .i64 0, .int .i64 0, .slice none 0 0] 33)) 9 (ws.map strV).toArray); exact (by simpa using h : Box _ _ _ _).alloc _,
      ((Box.new w 33 _).alloc _).alloc _, (((Below.refl _ _).alloc (Nat.le_refl _) _).alloc (by simp) _).alloc (by simp; omega) _⟩
  obtain ⟨W0, hW0e, hbx, htx, hbr, hW0⟩ := hW0
  rw [hW0e]
  clear hW0e
  obtain ⟨b2, hb2⟩ : ∃ b, w.heap.size = b := ⟨_, rfl⟩
  rw [hb2] at hbx htx hbr ⊢
  have hsz0 := hW0.size
  have hlt0 := hbx.lt
  have ct0 := tx_get htx 0 (by omega)
  rw [hx0.out] at ct0
  have ct1 := tx_get htx 1 (by omega)
  rw [hX1.out] at ct1
  go_wp2_with fail
  refine (hx1.out _).mono ?_
  rintro e wn ⟨dv, db, rfl, hown, hbn⟩
  have hdl := (Rd.of_own (enc := byteV) hown).len
  have hW3 : b2 + 1 + 1 < W0.heap.size := hbx.lt
  have bx1 := hbx.below hbn
  have br1 := hbr.below hbn
  have bw1 := hW0.trans (hbn.mono hsz0)
  have cs1 := bx1.get 1 _ rfl
  have fs1 := bx1.frozen 1
  have sx1 : Box (wn.setCell ⟨b2 + 1 + 1, 1, none⟩ (dv)) (b2 + 1 + 1) 33 #[.int .i64 0, dv, .int .i64 0, .int .i64 0, .int .i64 0, .slice none 0 0] := by simpa using bx1.set 1 (dv)
  have sr1 : Box (wn.setCell ⟨b2 + 1 + 1, 1, none⟩ (dv)) b2 33 #[.int .i64 0, .slice none 0 0, .int .i64 0, .int .i64 0, .int .i64 0, .slice none 0 0] := br1.setFar _ _ (by show b2 + 1 + 1 ≠ b2; omega)
  have sW1 : Below w.heap.size w (wn.setCell ⟨b2 + 1 + 1, 1, none⟩ (dv)) := bw1.setCell (p := ⟨b2 + 1 + 1, 1, none⟩) (by show w.heap.size ≤ b2 + 1 + 1; omega) _
  have sown := own_base (base' := b2 + 1) (own_setFar (a := ⟨b2 + 1 + 1, 1, none⟩) hown hW3 dv) (by omega)
  obtain ⟨da, dc, rfl⟩ := hdl
  have ca0 := sx1.get 0 _ rfl
  have ca1 := sx1.get 1 _ rfl
  have ca2 := sx1.get 2 _ rfl
  have ca3 := sx1.get 3 _ rfl
  have ca4 := sx1.get 4 _ rfl
  have ca5 := sx1.get 5 _ rfl
  have hans := Lib.hid (answer_any (9) (⟨0, D1, 0, 0, 0, []⟩) (.slice da D1.length dc) (.slice none 0 0) (wn.setCell ⟨b2 + 1 + 1, 1, none⟩ (.slice da D1.length dc)) ⟨by decide, by decide⟩ (res_plain 0 0 0 0 ⟨in64_zero, in64_zero, in64_zero, in64_zero⟩ D1) (fits_plain 0 0 0 0 D1 hD1) (Rd.of_own (enc := byteV) sown) (RdE.nil _))
  have hsz8 := sW1.size
  have hlt8 := sx1.lt
  go_wp2_with fail
  refine hans.out.mono ?_
  rintro e w9 ⟨rfl, hb9⟩
  have bx9 := sx1.below hb9
  have br9 := sr1.below hb9
  have bw9 := sW1.trans (hb9.mono hsz8)
  have od9 := own_below sown hb9
  have ol9 := own_below (World.ownsRow_nil _ (b2 + 1) 39 3) hb9
  clear ca0 ca1 ca2 ca3 ca4 ca5 hb9 hans
  have ca0 := bx9.get 0 _ rfl
  have ca1 := bx9.get 1 _ rfl
  have ca2 := bx9.get 2 _ rfl
  have ca3 := bx9.get 3 _ rfl
  have ca4 := bx9.get 4 _ rfl
  have ca5 := bx9.get 5 _ rfl
  have cr0 := br9.get 0 _ rfl
  have cr1 := br9.get 1 _ rfl
  have cr2 := br9.get 2 _ rfl
  have cr3 := br9.get 3 _ rfl
  have cr4 := br9.get 4 _ rfl
  have cr5 := br9.get 5 _ rfl
  have fr0 := br9.frozen 0
  have fr1 := br9.frozen 1
  have fr2 := br9.frozen 2
  have fr3 := br9.frozen 3
  have fr4 := br9.frozen 4
  have fr5 := br9.frozen 5
  obtain ⟨y, hy⟩ : ∃ y, Tr.answer (9) (⟨0, D1, 0, 0, 0, []⟩) = y := ⟨_, rfl⟩
  rw [hy] at hpa ⊢
  replace hy := Lib.hid hy
  by_cases hys : y = s
  · have hfin := Lib.hid (hpa.out.1 hys)
    have hy1 : (y == s) = true := by simpa using hys
    have hy2 : (y != s) = false := by simp [hys]
    replace hys := Lib.hid hys
    go_wp2_with fail
    obtain ⟨hp6, hb6⟩ := put6 br9 (.int .i64 0) (.slice da D1.length dc) (.int .i64 0) (.int .i64 0) (.int .i64 0) (.slice none 0 0) bw9 (by omega)
    refine bodyPost_ret (res15 hp6 rfl rfl) rfl ?_
    rw [hfin.out]
    exact ⟨.slice da D1.length dc, .slice none 0 0, rfl, own_base (own_put6 od9 (Nat.lt_succ_self b2) _ _ _ _ _ _) (by omega), own_base (own_put6 ol9 (Nat.lt_succ_self b2) _ _ _ _ _ _) (by omega), hb6⟩
  · have hfin := Lib.hid (hpa.out.2 hys)
    have hy1 : (y == s) = false := by simpa using hys
    have hy2 : (y != s) = true := by simp [hys]
    replace hys := Lib.hid hys
    go_wp2_with fail
    obtain ⟨hp6, hb6⟩ := put6 br9 (.int .i64 0) (.slice none 0 0) (.int .i64 0) (.int .i64 0) (.int .i64 0) (.slice none 0 0) bw9 (by omega)
    refine bodyPost_ret (res15 hp6 rfl rfl) rfl ?_
    rw [hfin.out]
    exact ⟨_, _, rfl, World.ownsRow_nil _ _ _ _, World.ownsRow_nil _ _ _ _, hb6⟩
end Go.Proofs.YtpoongljokbgcaaDoor
