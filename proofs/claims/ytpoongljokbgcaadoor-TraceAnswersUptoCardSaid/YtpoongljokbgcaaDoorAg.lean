/- The walk of trace.ParseAnswer, a stat (printed by wip/tools/parse15.py). -/
import Derived.Test.YtpoongljokbgcaaDoorAd
namespace Go.Proofs.YtpoongljokbgcaaDoor
open Go.RowKit
def arr3 (a b c : Int) : Nat → Array Value
  | 0 => #[.int .i64 0, .int .i64 0, .int .i64 0]
  | 1 => #[.int .i64 a, .int .i64 0, .int .i64 0]
  | 2 => #[.int .i64 a, .int .i64 b, .int .i64 0]
  | _ => #[.int .i64 a, .int .i64 b, .int .i64 c]
set_option maxRecDepth 100000 in
set_option maxHeartbeats 4000000 in
theorem pans_stat (s : List UInt8) (w : World) (hG : Gl w) (hs : s.length ≤ 4000000) (ws : List (List UInt8)) (hws : Tr.spl 32 s = ws) (x : List UInt8) (ws' : List (List UInt8)) (hxw : ws = x :: ws') (hx : x = Tr.wStat) (hl : ws.length = 4) :
    Calls Tryd.prog 15 #[.string (S s)] w (AnsRes (Tr.parseAns s) w) := by
  have hx0 : ws.getD 0 [] = x := by rw [hxw]; rfl
  have hwl : 1 ≤ ws.length := by rw [hxw]; simp
  have hwm : ws.length ≤ 4000001 := by rw [← hws]; exact Nat.le_trans (spl_len 32 s) (by omega)
  have hmem : ∀ i, (ws.getD i []).length ≤ 4000000 := fun i => by rw [← hws]; exact Nat.le_trans (getD_len 32 s i) hs
  obtain ⟨X1, hX1⟩ : ∃ X, ws.getD 1 [] = X := ⟨_, rfl⟩
  have hl1 : X1.length ≤ 4000000 := hX1 ▸ hmem 1
  have hn1 := fun W => parseNum_any X1 W (by omega)
  have hN1 := pnum_in X1
  obtain ⟨⟨N1, o1⟩, eN1⟩ : ∃ P, Tr.pnum X1 = P := ⟨_, rfl⟩
  rw [eN1] at hN1 hn1
  replace hn1 := Lib.hid hn1
  replace hN1 := Lib.hid hN1
  dsimp only at hN1
  obtain ⟨X2, hX2⟩ : ∃ X, ws.getD 2 [] = X := ⟨_, rfl⟩
  have hl2 : X2.length ≤ 4000000 := hX2 ▸ hmem 2
  have hn2 := fun W => parseNum_any X2 W (by omega)
  have hN2 := pnum_in X2
  obtain ⟨⟨N2, o2⟩, eN2⟩ : ∃ P, Tr.pnum X2 = P := ⟨_, rfl⟩
  rw [eN2] at hN2 hn2
  replace hn2 := Lib.hid hn2
  replace hN2 := Lib.hid hN2
  dsimp only at hN2
  obtain ⟨X3, hX3⟩ : ∃ X, ws.getD 3 [] = X := ⟨_, rfl⟩
  have hl3 : X3.length ≤ 4000000 := hX3 ▸ hmem 3
  have hn3 := fun W => parseNum_any X3 W (by omega)
  have hN3 := pnum_in X3
  obtain ⟨⟨N3, o3⟩, eN3⟩ : ∃ P, Tr.pnum X3 = P := ⟨_, rfl⟩
  rw [eN3] at hN3 hn3
  replace hn3 := Lib.hid hn3
  replace hN3 := Lib.hid hN3
  dsimp only at hN3
  have hpa := Lib.hid (Tr.parse_pa (s := s) (k := 10) (r := ⟨0, [], N1, N2, N3, []⟩) hws (by unfold Tr.abuild; rw [hx0, hX1, hX2, hX3, eN1, eN2, eN3, if_neg (fun h => absurd (hx.symm.trans h.1) (by decide)), if_neg (fun h => absurd (hx.symm.trans h.1) (by decide)), if_pos ⟨hx, hl⟩]))
  have hle4 : 4 ≤ ws.length := by omega
  have hge4 : ws.length ≤ 4 := by omega
  have b0 : (x == ([101, 114, 114, 111, 114] : List UInt8)) = false := by rw [hx]; rfl
  have b1 : (x == ([100, 97, 116, 97] : List UInt8)) = false := by rw [hx]; rfl
  have b2 : (x == ([115, 116, 97, 116] : List UInt8)) = true := by rw [hx]; rfl
  have b3 : (x == ([108, 105, 115, 116] : List UInt8)) = false := by rw [hx]; rfl
  have l4 : ((ws.length : Int) == 4) = true := by rw [beq_iff_eq]; omega
  replace hx := Lib.hid hx
  replace hl := Lib.hid hl
  clear hmem
  replace hX1 := Lib.hid hX1
  replace eN1 := Lib.hid eN1
  replace hX2 := Lib.hid hX2
  replace eN2 := Lib.hid eN2
  replace hX3 := Lib.hid hX3
  replace eN3 := Lib.hid eN3
  have hwn : 0 < ws.length := by omega
  replace hG := Lib.hid hG
  replace hxw := Lib.hid hxw
  replace hx0 := Lib.hid hx0
  go_enter Tryd.func15, Tryd.ntmps15
  go_wp2_with fail
  refine (split_S 32 s _ (hG.out.below ((Below.refl _ _).alloc (Nat.le_refl _) _)) (by omega)).mono ?_
  rintro e w1 ⟨rfl, rfl⟩
  rw [hws]
  replace hws := Lib.hid hws
  go_upto_region 4 with fail
  have hW0 : ∃ W0, (((w.alloc (.cells #[.int .i64 0, .slice none 0 0, .int .i64 0, .int .i64 0, .int .i64 0, .slice none 0 0] 33)).alloc (.cells (ws.map strV).toArray 9)).alloc (.cells #[.int .i64 0, .slice none 0 0, .int .i64 0, .int .i64 0, .int .i64 0, .slice none 0 0] 33)) = W0 ∧
      Box W0 (w.heap.size + 1 + 1) 33 #[.int .i64 0, .slice none 0 0, .int .i64 0, .int .i64 0, .int .i64 0, .slice none 0 0] ∧ Box W0 (w.heap.size + 1) 9 (ws.map strV).toArray ∧ Box W0 w.heap.size 33 #[.int .i64 0, .slice none 0 0, .int .i64 0, .int .i64 0, .int .i64 0, .slice none 0 0] ∧ Below w.heap.size w W0 :=
    ⟨_, rfl, by simpa using Box.new ((w.alloc (.cells #[.int .i64 0, .slice none 0 0, .int .i64 0, .int .i64 0, .int .i64 0, .slice none 0 0] 33)).alloc (.cells (ws.map strV).toArray 9)) 33 _,
      by have h := (Box.new (w.alloc (.cells #[.int .i64 0, .slice none 0 0, .int .i64 0, .int .i64 0, .int .i64 0, .slice none 0 0] 33)) 9 (ws.map strV).toArray); exact (by simpa using h : Box _ _ _ _).alloc _,
      ((Box.new w 33 _).alloc _).alloc _, (((Below.refl _ _).alloc (Nat.le_refl _) _).alloc (by simp) _).alloc (by simp; omega) _⟩
  obtain ⟨W0, hW0e, hbx, htx, hbr, hW0⟩ := hW0
  rw [hW0e]
  clear hW0e
  obtain ⟨b2, hb2⟩ : ∃ b, w.heap.size = b := ⟨_, rfl⟩
  rw [hb2] at hbx htx hbr ⊢
  have hsz0 := hW0.size
  have hlt0 := hbx.lt
  have ct0 := tx_get htx 0 (by omega)
  rw [hx0.out] at ct0
  go_wp2_with fail
  obtain ⟨c, hc⟩ : ∃ c, W0.heap.size = c := ⟨_, rfl⟩
  have hlc : b2 + 1 + 1 < c := by rw [← hc]; exact hlt0
  have hA0 := Box.new W0 86 #[.int .i64 0, .int .i64 0, .int .i64 0]
  rw [hc] at hA0 hsz0 ⊢
  go_loopw [69] (fun k wr => ∃ i : Nat, i ≤ 3 ∧ k = .int .i64 i ∧ Box wr c 86 (arr3 N1 N2 N3 i) ∧ Box wr (b2 + 1 + 1) 33 #[.int .i64 0, .slice none 0 0, .int .i64 0, .int .i64 0, .int .i64 0, .slice none 0 0] ∧ Box wr (b2 + 1) 9 (ws.map strV).toArray ∧ Box wr b2 33 #[.int .i64 0, .slice none 0 0, .int .i64 0, .int .i64 0, .int .i64 0, .slice none 0 0] ∧ Below w.heap.size w wr)
    (fun k _ => 3 - (intOf k).toNat)
  case atStart => exact ⟨0, by omega, rfl, hA0, hbx.alloc _, htx.alloc _, hbr.alloc _, hW0.alloc (by omega) _⟩
  case round =>
    clear hA0 hbx htx hbr hW0 ct0
    obtain ⟨i, hi, rfl, ha, bx0, tx0, br0, bw0⟩ := hrel
    have hz0 := bw0.size
    have hla := ha.lt
    rcases (by omega : i = 0 ∨ i = 1 ∨ i = 2 ∨ i = 3) with rfl | rfl | rfl | rfl
    · have ct := tx_get tx0 1 (by omega)
      rw [hX1.out] at ct
      go_wp2_with fail
      refine (hn1.out _).mono ?_
      rintro e wn ⟨rfl, hbn⟩
      have ha1 := ha.below hbn
      have bx1 := bx0.below hbn
      have tx1 := tx0.below hbn
      have br1 := br0.below hbn
      have bw1 := bw0.trans (hbn.mono hz0)
      have cs1 := ha1.get 0 (.int .i64 0) rfl
      have fs1 := ha1.frozen 0
      go_wp2_with fail
      go_roundw
      case rel => exact ⟨1, by omega, by go_num, by simpa [arr3] using ha1.set 0 (.int .i64 N1), bx1.setFar _ _ (by show c ≠ b2 + 1 + 1; omega), tx1.setFar _ _ (by show c ≠ b2 + 1; omega), br1.setFar _ _ (by show c ≠ b2; omega), bw1.setCell (p := ⟨c, 0, none⟩) (by show w.heap.size ≤ c; omega) _⟩
      case measure => simp [intOf]
    · have ct := tx_get tx0 2 (by omega)
      rw [hX2.out] at ct
      go_wp2_with fail
      refine (hn2.out _).mono ?_
      rintro e wn ⟨rfl, hbn⟩
      have ha1 := ha.below hbn
      have bx1 := bx0.below hbn
      have tx1 := tx0.below hbn
      have br1 := br0.below hbn
      have bw1 := bw0.trans (hbn.mono hz0)
      have cs1 := ha1.get 1 (.int .i64 0) rfl
      have fs1 := ha1.frozen 1
      go_wp2_with fail
      go_roundw
      case rel => exact ⟨2, by omega, by go_num, by simpa [arr3] using ha1.set 1 (.int .i64 N2), bx1.setFar _ _ (by show c ≠ b2 + 1 + 1; omega), tx1.setFar _ _ (by show c ≠ b2 + 1; omega), br1.setFar _ _ (by show c ≠ b2; omega), bw1.setCell (p := ⟨c, 1, none⟩) (by show w.heap.size ≤ c; omega) _⟩
      case measure => simp [intOf]
    · have ct := tx_get tx0 3 (by omega)
      rw [hX3.out] at ct
      go_wp2_with fail
      refine (hn3.out _).mono ?_
      rintro e wn ⟨rfl, hbn⟩
      have ha1 := ha.below hbn
      have bx1 := bx0.below hbn
      have tx1 := tx0.below hbn
      have br1 := br0.below hbn
      have bw1 := bw0.trans (hbn.mono hz0)
      have cs1 := ha1.get 2 (.int .i64 0) rfl
      have fs1 := ha1.frozen 2
      go_wp2_with fail
      go_roundw
      case rel => exact ⟨3, by omega, by go_num, by simpa [arr3] using ha1.set 2 (.int .i64 N3), bx1.setFar _ _ (by show c ≠ b2 + 1 + 1; omega), tx1.setFar _ _ (by show c ≠ b2 + 1; omega), br1.setFar _ _ (by show c ≠ b2; omega), bw1.setCell (p := ⟨c, 2, none⟩) (by show w.heap.size ≤ c; omega) _⟩
      case measure => simp [intOf]
    · have an0 := ha.get 0 (.int .i64 N1) rfl
      have an1 := ha.get 1 (.int .i64 N2) rfl
      have an2 := ha.get 2 (.int .i64 N3) rfl
      have cs2 := bx0.get 2 _ rfl
      have cs3 := bx0.get 3 _ rfl
      have cs4 := bx0.get 4 _ rfl
      have fs2 := bx0.frozen 2
      have fs3 := bx0.frozen 3
      have fs4 := bx0.frozen 4
      have sx1 : Box (((wr.setCell ⟨b2 + 1 + 1, 2, none⟩ (.int .i64 N1)).setCell ⟨b2 + 1 + 1, 3, none⟩ (.int .i64 N2)).setCell ⟨b2 + 1 + 1, 4, none⟩ (.int .i64 N3)) (b2 + 1 + 1) 33 #[.int .i64 0, .slice none 0 0, .int .i64 N1, .int .i64 N2, .int .i64 N3, .slice none 0 0] := by simpa using ((bx0.set 2 (.int .i64 N1)).set 3 (.int .i64 N2)).set 4 (.int .i64 N3)
      have sr1 : Box (((wr.setCell ⟨b2 + 1 + 1, 2, none⟩ (.int .i64 N1)).setCell ⟨b2 + 1 + 1, 3, none⟩ (.int .i64 N2)).setCell ⟨b2 + 1 + 1, 4, none⟩ (.int .i64 N3)) b2 33 #[.int .i64 0, .slice none 0 0, .int .i64 0, .int .i64 0, .int .i64 0, .slice none 0 0] := ((br0.setFar _ _ (by show b2 + 1 + 1 ≠ b2; omega)).setFar _ _ (by show b2 + 1 + 1 ≠ b2; omega)).setFar _ _ (by show b2 + 1 + 1 ≠ b2; omega)
      have sW1 : Below w.heap.size w (((wr.setCell ⟨b2 + 1 + 1, 2, none⟩ (.int .i64 N1)).setCell ⟨b2 + 1 + 1, 3, none⟩ (.int .i64 N2)).setCell ⟨b2 + 1 + 1, 4, none⟩ (.int .i64 N3)) := ((bw0.setCell (p := ⟨b2 + 1 + 1, 2, none⟩) (by show w.heap.size ≤ b2 + 1 + 1; omega) _).setCell (p := ⟨b2 + 1 + 1, 3, none⟩) (by show w.heap.size ≤ b2 + 1 + 1; omega) _).setCell (p := ⟨b2 + 1 + 1, 4, none⟩) (by show w.heap.size ≤ b2 + 1 + 1; omega) _
      have ca0 := sx1.get 0 _ rfl
      have ca1 := sx1.get 1 _ rfl
      have ca2 := sx1.get 2 _ rfl
      have ca3 := sx1.get 3 _ rfl
      have ca4 := sx1.get 4 _ rfl
      have ca5 := sx1.get 5 _ rfl
      have hans := Lib.hid (answer_any (10) (⟨0, [], N1, N2, N3, []⟩) (.slice none 0 0) (.slice none 0 0) (((wr.setCell ⟨b2 + 1 + 1, 2, none⟩ (.int .i64 N1)).setCell ⟨b2 + 1 + 1, 3, none⟩ (.int .i64 N2)).setCell ⟨b2 + 1 + 1, 4, none⟩ (.int .i64 N3)) ⟨by decide, by decide⟩ (res_plain 0 N1 N2 N3 ⟨in64_zero, hN1.out, hN2.out, hN3.out⟩ []) (fits_plain 0 N1 N2 N3 [] (by simp)) (Rd.nil _ _) (RdE.nil _))
      have hsz8 := sW1.size
      have hlt8 := sx1.lt
      go_wp2_with fail
      refine hans.out.mono ?_
      rintro e w9 ⟨rfl, hb9⟩
      have bx9 := sx1.below hb9
      have br9 := sr1.below hb9
      have bw9 := sW1.trans (hb9.mono hsz8)
      have od9 := own_below (World.ownsRow_nil _ (b2 + 1) 5 1) hb9
      have ol9 := own_below (World.ownsRow_nil _ (b2 + 1) 39 3) hb9
      clear ca0 ca1 ca2 ca3 ca4 ca5 hb9 hans
      have ca0 := bx9.get 0 _ rfl
      have ca1 := bx9.get 1 _ rfl
      have ca2 := bx9.get 2 _ rfl
      have ca3 := bx9.get 3 _ rfl
      have ca4 := bx9.get 4 _ rfl
      have ca5 := bx9.get 5 _ rfl
      have cr0 := br9.get 0 _ rfl
      have cr1 := br9.get 1 _ rfl
      have cr2 := br9.get 2 _ rfl
      have cr3 := br9.get 3 _ rfl
      have cr4 := br9.get 4 _ rfl
      have cr5 := br9.get 5 _ rfl
      have fr0 := br9.frozen 0
      have fr1 := br9.frozen 1
      have fr2 := br9.frozen 2
      have fr3 := br9.frozen 3
      have fr4 := br9.frozen 4
      have fr5 := br9.frozen 5
      obtain ⟨y, hy⟩ : ∃ y, Tr.answer (10) (⟨0, [], N1, N2, N3, []⟩) = y := ⟨_, rfl⟩
      rw [hy] at hpa ⊢
      replace hy := Lib.hid hy
      by_cases hys : y = s
      · have hfin := Lib.hid (hpa.out.1 hys)
        have hy1 : (y == s) = true := by simpa using hys
        have hy2 : (y != s) = false := by simp [hys]
        replace hys := Lib.hid hys
        go_wp2_with fail
        obtain ⟨hp6, hb6⟩ := put6 br9 (.int .i64 0) (.slice none 0 0) (.int .i64 N1) (.int .i64 N2) (.int .i64 N3) (.slice none 0 0) bw9 (by omega)
        refine bodyPost_ret (res15 hp6 rfl rfl) rfl ?_
        rw [hfin.out]
        exact ⟨.slice none 0 0, .slice none 0 0, rfl, own_base (own_put6 od9 (Nat.lt_succ_self b2) _ _ _ _ _ _) (by omega), own_base (own_put6 ol9 (Nat.lt_succ_self b2) _ _ _ _ _ _) (by omega), hb6⟩
      · have hfin := Lib.hid (hpa.out.2 hys)
        have hy1 : (y == s) = false := by simpa using hys
        have hy2 : (y != s) = true := by simp [hys]
        replace hys := Lib.hid hys
        go_wp2_with fail
        obtain ⟨hp6, hb6⟩ := put6 br9 (.int .i64 0) (.slice none 0 0) (.int .i64 0) (.int .i64 0) (.int .i64 0) (.slice none 0 0) bw9 (by omega)
        refine bodyPost_ret (res15 hp6 rfl rfl) rfl ?_
        rw [hfin.out]
        exact ⟨_, _, rfl, World.ownsRow_nil _ _ _ _, World.ownsRow_nil _ _ _ _, hb6⟩
end Go.Proofs.YtpoongljokbgcaaDoor
