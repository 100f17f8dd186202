/- The walk of trace.ParseAnswer, what is no answer (printed by wip/tools/parse15.py). -/
import Derived.Test.YtpoongljokbgcaaDoorAd
namespace Go.Proofs.YtpoongljokbgcaaDoor
open Go.RowKit
set_option maxRecDepth 100000 in
set_option maxHeartbeats 4000000 in
theorem pans_other (s : List UInt8) (w : World) (hG : Gl w) (hs : s.length ≤ 4000000) (ws : List (List UInt8)) (hws : Tr.spl 32 s = ws) (x : List UInt8) (ws' : List (List UInt8)) (hxw : ws = x :: ws') (h1 : x ≠ Tr.wError) (h2 : x ≠ Tr.wData) (h3 : x ≠ Tr.wStat) (h4 : x ≠ Tr.wList) :
    Calls Tryd.prog 15 #[.string (S s)] w (AnsRes (Tr.parseAns s) w) := by
  have hx0 : ws.getD 0 [] = x := by rw [hxw]; rfl
  have hwl : 1 ≤ ws.length := by rw [hxw]; simp
  have hwm : ws.length ≤ 4000001 := by rw [← hws]; exact Nat.le_trans (spl_len 32 s) (by omega)
  have hmem : ∀ i, (ws.getD i []).length ≤ 4000000 := fun i => by rw [← hws]; exact Nat.le_trans (getD_len 32 s i) hs
  have hpa := Lib.hid (Tr.parse_pa (s := s) (k := 0) (r := Tr.resZero) hws (by unfold Tr.abuild; rw [hx0, if_neg (fun h => h1 h.1), if_neg (fun h => h2 h.1), if_neg (fun h => h3 h.1), if_neg h4]))
  have b1 : (x == ([101, 114, 114, 111, 114] : List UInt8)) = false := beq_eq_false_iff_ne.2 h1
  clear h1
  have b2 : (x == ([100, 97, 116, 97] : List UInt8)) = false := beq_eq_false_iff_ne.2 h2
  clear h2
  have b3 : (x == ([115, 116, 97, 116] : List UInt8)) = false := beq_eq_false_iff_ne.2 h3
  clear h3
  have b4 : (x == ([108, 105, 115, 116] : List UInt8)) = false := beq_eq_false_iff_ne.2 h4
  clear h4
  clear hmem
  have hwn : 0 < ws.length := by omega
  replace hG := Lib.hid hG
  replace hxw := Lib.hid hxw
  replace hx0 := Lib.hid hx0
  go_enter Tryd.func15, Tryd.ntmps15
  go_wp2_with fail
  refine (split_S 32 s _ (hG.out.below ((Below.refl _ _).alloc (Nat.le_refl _) _)) (by omega)).mono ?_
  rintro e w1 ⟨rfl, rfl⟩
  rw [hws]
  replace hws := Lib.hid hws
  go_upto_region 4 with fail
  have hW0 : ∃ W0, (((w.alloc (.cells #[.int .i64 0, .slice none 0 0, .int .i64 0, .int .i64 0, .int .i64 0, .slice none 0 0] 33)).alloc (.cells (ws.map strV).toArray 9)).alloc (.cells #[.int .i64 0, .slice none 0 0, .int .i64 0, .int .i64 0, .int .i64 0, .slice none 0 0] 33)) = W0 ∧
      Box W0 (w.heap.size + 1 + 1) 33 #[.int .i64 0, .slice none 0 0, .int .i64 0, .int .i64 0, .int .i64 0, .slice none 0 0] ∧ Box W0 (w.heap.size + 1) 9 (ws.map strV).toArray ∧ Box W0 w.heap.size 33 #[.int .i64 0, .slice none 0 0, .int .i64 0, .int .i64 0, .int .i64 0, .slice none 0 0] ∧ Below w.heap.size w W0 :=
    ⟨_, rfl, by simpa using Box.new ((w.alloc (.cells #[.int .i64 0, .slice none 0 0, .int .i64 0, .int .i64 0, .int .i64 0, .slice none 0 0] 33)).alloc (.cells (ws.map strV).toArray 9)) 33 _,
      by have h := (Box.new (w.alloc (.cells #[.int .i64 0, .slice none 0 0, .int .i64 0, .int .i64 0, .int .i64 0, .slice none 0 0] 33)) 9 (ws.map strV).toArray); exact (by simpa using h : Box _ _ _ _).alloc _,
      ((Box.new w 33 _).alloc _).alloc _, (((Below.refl _ _).alloc (Nat.le_refl _) _).alloc (by simp) _).alloc (by simp; omega) _⟩
  obtain ⟨W0, hW0e, hbx, htx, hbr, hW0⟩ := hW0
  rw [hW0e]
  clear hW0e
  obtain ⟨b2, hb2⟩ : ∃ b, w.heap.size = b := ⟨_, rfl⟩
  rw [hb2] at hbx htx hbr ⊢
  have hsz0 := hW0.size
  have hlt0 := hbx.lt
  have ct0 := tx_get htx 0 (by omega)
  rw [hx0.out] at ct0
  have ca0 := hbx.get 0 _ rfl
  have ca1 := hbx.get 1 _ rfl
  have ca2 := hbx.get 2 _ rfl
  have ca3 := hbx.get 3 _ rfl
  have ca4 := hbx.get 4 _ rfl
  have ca5 := hbx.get 5 _ rfl
  have hans := Lib.hid (answer_any (0) (Tr.resZero) (.slice none 0 0) (.slice none 0 0) W0 ⟨by decide, by decide⟩ (res_plain 0 0 0 0 ⟨in64_zero, in64_zero, in64_zero, in64_zero⟩ []) (fits_plain 0 0 0 0 [] (by simp)) (Rd.nil _ _) (RdE.nil _))
  have hsz8 := hW0.size
  have hlt8 := hbx.lt
  go_wp2_with fail
  refine hans.out.mono ?_
  rintro e w9 ⟨rfl, hb9⟩
  have bx9 := hbx.below hb9
  have br9 := hbr.below hb9
  have bw9 := hW0.trans (hb9.mono hsz8)
  have od9 := own_below (World.ownsRow_nil W0 (b2 + 1) 5 1) hb9
  have ol9 := own_below (World.ownsRow_nil W0 (b2 + 1) 39 3) hb9
  clear ca0 ca1 ca2 ca3 ca4 ca5 hb9 hans
  have ca0 := bx9.get 0 _ rfl
  have ca1 := bx9.get 1 _ rfl
  have ca2 := bx9.get 2 _ rfl
  have ca3 := bx9.get 3 _ rfl
  have ca4 := bx9.get 4 _ rfl
  have ca5 := bx9.get 5 _ rfl
  have cr0 := br9.get 0 _ rfl
  have cr1 := br9.get 1 _ rfl
  have cr2 := br9.get 2 _ rfl
  have cr3 := br9.get 3 _ rfl
  have cr4 := br9.get 4 _ rfl
  have cr5 := br9.get 5 _ rfl
  have fr0 := br9.frozen 0
  have fr1 := br9.frozen 1
  have fr2 := br9.frozen 2
  have fr3 := br9.frozen 3
  have fr4 := br9.frozen 4
  have fr5 := br9.frozen 5
  obtain ⟨y, hy⟩ : ∃ y, Tr.answer (0) (Tr.resZero) = y := ⟨_, rfl⟩
  rw [hy] at hpa ⊢
  replace hy := Lib.hid hy
  by_cases hys : y = s
  · have hfin := Lib.hid (hpa.out.1 hys)
    have hy1 : (y == s) = true := by simpa using hys
    have hy2 : (y != s) = false := by simp [hys]
    replace hys := Lib.hid hys
    go_wp2_with fail
    obtain ⟨hp6, hb6⟩ := put6 br9 (.int .i64 0) (.slice none 0 0) (.int .i64 0) (.int .i64 0) (.int .i64 0) (.slice none 0 0) bw9 (by omega)
    refine bodyPost_ret (res15 hp6 rfl rfl) rfl ?_
    rw [hfin.out]
    exact ⟨.slice none 0 0, .slice none 0 0, rfl, own_base (own_put6 od9 (Nat.lt_succ_self b2) _ _ _ _ _ _) (by omega), own_base (own_put6 ol9 (Nat.lt_succ_self b2) _ _ _ _ _ _) (by omega), hb6⟩
  · have hfin := Lib.hid (hpa.out.2 hys)
    have hy1 : (y == s) = false := by simpa using hys
    have hy2 : (y != s) = true := by simp [hys]
    replace hys := Lib.hid hys
    go_wp2_with fail
    obtain ⟨hp6, hb6⟩ := put6 br9 (.int .i64 0) (.slice none 0 0) (.int .i64 0) (.int .i64 0) (.int .i64 0) (.slice none 0 0) bw9 (by omega)
    refine bodyPost_ret (res15 hp6 rfl rfl) rfl ?_
    rw [hfin.out]
    exact ⟨_, _, rfl, World.ownsRow_nil _ _ _ _, World.ownsRow_nil _ _ _ _, hb6⟩
set_option maxRecDepth 100000 in
set_option maxHeartbeats 4000000 in
theorem pans_error_no (s : List UInt8) (w : World) (hG : Gl w) (hs : s.length ≤ 4000000) (ws : List (List UInt8)) (hws : Tr.spl 32 s = ws) (x : List UInt8) (ws' : List (List UInt8)) (hxw : ws = x :: ws') (hx : x = Tr.wError) (hl : ws.length ≠ 2) :
    Calls Tryd.prog 15 #[.string (S s)] w (AnsRes (Tr.parseAns s) w) := by
  have hx0 : ws.getD 0 [] = x := by rw [hxw]; rfl
  have hwl : 1 ≤ ws.length := by rw [hxw]; simp
  have hwm : ws.length ≤ 4000001 := by rw [← hws]; exact Nat.le_trans (spl_len 32 s) (by omega)
  have hmem : ∀ i, (ws.getD i []).length ≤ 4000000 := fun i => by rw [← hws]; exact Nat.le_trans (getD_len 32 s i) hs
  have hpa := Lib.hid (Tr.parse_pa (s := s) (k := 0) (r := Tr.resZero) hws (by unfold Tr.abuild; rw [hx0, if_neg (fun h => hl h.2), if_neg (fun h => absurd (hx.symm.trans h.1) (by decide)), if_neg (fun h => absurd (hx.symm.trans h.1) (by decide)), if_neg (fun h => absurd (hx.symm.trans h) (by decide))]))
  have b0 : (x == ([101, 114, 114, 111, 114] : List UInt8)) = true := by rw [hx]; rfl
  have b1 : (x == ([100, 97, 116, 97] : List UInt8)) = false := by rw [hx]; rfl
  have b2 : (x == ([115, 116, 97, 116] : List UInt8)) = false := by rw [hx]; rfl
  have b3 : (x == ([108, 105, 115, 116] : List UInt8)) = false := by rw [hx]; rfl
  have l2 : ((ws.length : Int) == 2) = false := by rw [beq_eq_false_iff_ne]; omega
  replace hx := Lib.hid hx
  replace hl := Lib.hid hl
  clear hmem
  have hwn : 0 < ws.length := by omega
  replace hG := Lib.hid hG
  replace hxw := Lib.hid hxw
  replace hx0 := Lib.hid hx0
  go_enter Tryd.func15, Tryd.ntmps15
  go_wp2_with fail
  refine (split_S 32 s _ (hG.out.below ((Below.refl _ _).alloc (Nat.le_refl _) _)) (by omega)).mono ?_
  rintro e w1 ⟨rfl, rfl⟩
  rw [hws]
  replace hws := Lib.hid hws
  go_upto_region 4 with fail
  have hW0 : ∃ W0, (((w.alloc (.cells #[.int .i64 0, .slice none 0 0, .int .i64 0, .int .i64 0, .int .i64 0, .slice none 0 0] 33)).alloc (.cells (ws.map strV).toArray 9)).alloc (.cells #[.int .i64 0, .slice none 0 0, .int .i64 0, .int .i64 0, .int .i64 0, .slice none 0 0] 33)) = W0 ∧
      Box W0 (w.heap.size + 1 + 1) 33 #[.int .i64 0, .slice none 0 0, .int .i64 0, .int .i64 0, .int .i64 0, .slice none 0 0] ∧ Box W0 (w.heap.size + 1) 9 (ws.map strV).toArray ∧ Box W0 w.heap.size 33 #[.int .i64 0, .slice none 0 0, .int .i64 0, .int .i64 0, .int .i64 0, .slice none 0 0] ∧ Below w.heap.size w W0 :=
    ⟨_, rfl, by simpa using Box.new ((w.alloc (.cells #[.int .i64 0, .slice none 0 0, .int .i64 0, .int .i64 0, .int .i64 0, .slice none 0 0] 33)).alloc (.cells (ws.map strV).toArray 9)) 33 _,
      by have h := (Box.new (w.alloc (.cells #[.int .i64 0, .slice none 0 0, .int .i64 0, .int .i64 0, .int .i64 0, .slice none 0 0] 33)) 9 (ws.map strV).toArray); exact (by simpa using h : Box _ _ _ _).alloc _,
      ((Box.new w 33 _).alloc _).alloc _, (((Below.refl _ _).alloc (Nat.le_refl _) _).alloc (by simp) _).alloc (by simp; omega) _⟩
  obtain ⟨W0, hW0e, hbx, htx, hbr, hW0⟩ := hW0
  rw [hW0e]
  clear hW0e
  obtain ⟨b2, hb2⟩ : ∃ b, w.heap.size = b := ⟨_, rfl⟩
  rw [hb2] at hbx htx hbr ⊢
  have hsz0 := hW0.size
  have hlt0 := hbx.lt
  have ct0 := tx_get htx 0 (by omega)
  rw [hx0.out] at ct0
  have ca0 := hbx.get 0 _ rfl
  have ca1 := hbx.get 1 _ rfl
  have ca2 := hbx.get 2 _ rfl
  have ca3 := hbx.get 3 _ rfl
  have ca4 := hbx.get 4 _ rfl
  have ca5 := hbx.get 5 _ rfl
  have hans := Lib.hid (answer_any (0) (Tr.resZero) (.slice none 0 0) (.slice none 0 0) W0 ⟨by decide, by decide⟩ (res_plain 0 0 0 0 ⟨in64_zero, in64_zero, in64_zero, in64_zero⟩ []) (fits_plain 0 0 0 0 [] (by simp)) (Rd.nil _ _) (RdE.nil _))
  have hsz8 := hW0.size
  have hlt8 := hbx.lt
  go_wp2_with fail
  refine hans.out.mono ?_
  rintro e w9 ⟨rfl, hb9⟩
  have bx9 := hbx.below hb9
  have br9 := hbr.below hb9
  have bw9 := hW0.trans (hb9.mono hsz8)
  have od9 := own_below (World.ownsRow_nil W0 (b2 + 1) 5 1) hb9
  have ol9 := own_below (World.ownsRow_nil W0 (b2 + 1) 39 3) hb9
  clear ca0 ca1 ca2 ca3 ca4 ca5 hb9 hans
  have ca0 := bx9.get 0 _ rfl
  have ca1 := bx9.get 1 _ rfl
  have ca2 := bx9.get 2 _ rfl
  have ca3 := bx9.get 3 _ rfl
  have ca4 := bx9.get 4 _ rfl
  have ca5 := bx9.get 5 _ rfl
  have cr0 := br9.get 0 _ rfl
  have cr1 := br9.get 1 _ rfl
  have cr2 := br9.get 2 _ rfl
  have cr3 := br9.get 3 _ rfl
  have cr4 := br9.get 4 _ rfl
  have cr5 := br9.get 5 _ rfl
  have fr0 := br9.frozen 0
  have fr1 := br9.frozen 1
  have fr2 := br9.frozen 2
  have fr3 := br9.frozen 3
  have fr4 := br9.frozen 4
  have fr5 := br9.frozen 5
  obtain ⟨y, hy⟩ : ∃ y, Tr.answer (0) (Tr.resZero) = y := ⟨_, rfl⟩
  rw [hy] at hpa ⊢
  replace hy := Lib.hid hy
  by_cases hys : y = s
  · have hfin := Lib.hid (hpa.out.1 hys)
    have hy1 : (y == s) = true := by simpa using hys
    have hy2 : (y != s) = false := by simp [hys]
    replace hys := Lib.hid hys
    go_wp2_with fail
    obtain ⟨hp6, hb6⟩ := put6 br9 (.int .i64 0) (.slice none 0 0) (.int .i64 0) (.int .i64 0) (.int .i64 0) (.slice none 0 0) bw9 (by omega)
    refine bodyPost_ret (res15 hp6 rfl rfl) rfl ?_
    rw [hfin.out]
    exact ⟨.slice none 0 0, .slice none 0 0, rfl, own_base (own_put6 od9 (Nat.lt_succ_self b2) _ _ _ _ _ _) (by omega), own_base (own_put6 ol9 (Nat.lt_succ_self b2) _ _ _ _ _ _) (by omega), hb6⟩
  · have hfin := Lib.hid (hpa.out.2 hys)
    have hy1 : (y == s) = false := by simpa using hys
    have hy2 : (y != s) = true := by simp [hys]
    replace hys := Lib.hid hys
    go_wp2_with fail
    obtain ⟨hp6, hb6⟩ := put6 br9 (.int .i64 0) (.slice none 0 0) (.int .i64 0) (.int .i64 0) (.int .i64 0) (.slice none 0 0) bw9 (by omega)
    refine bodyPost_ret (res15 hp6 rfl rfl) rfl ?_
    rw [hfin.out]
    exact ⟨_, _, rfl, World.ownsRow_nil _ _ _ _, World.ownsRow_nil _ _ _ _, hb6⟩
set_option maxRecDepth 100000 in
set_option maxHeartbeats 4000000 in
theorem pans_data_no (s : List UInt8) (w : World) (hG : Gl w) (hs : s.length ≤ 4000000) (ws : List (List UInt8)) (hws : Tr.spl 32 s = ws) (x : List UInt8) (ws' : List (List UInt8)) (hxw : ws = x :: ws') (hx : x = Tr.wData) (hl : ws.length ≠ 2) :
    Calls Tryd.prog 15 #[.string (S s)] w (AnsRes (Tr.parseAns s) w) := by
  have hx0 : ws.getD 0 [] = x := by rw [hxw]; rfl
  have hwl : 1 ≤ ws.length := by rw [hxw]; simp
  have hwm : ws.length ≤ 4000001 := by rw [← hws]; exact Nat.le_trans (spl_len 32 s) (by omega)
  have hmem : ∀ i, (ws.getD i []).length ≤ 4000000 := fun i => by rw [← hws]; exact Nat.le_trans (getD_len 32 s i) hs
  have hpa := Lib.hid (Tr.parse_pa (s := s) (k := 0) (r := Tr.resZero) hws (by unfold Tr.abuild; rw [hx0, if_neg (fun h => absurd (hx.symm.trans h.1) (by decide)), if_neg (fun h => hl h.2), if_neg (fun h => absurd (hx.symm.trans h.1) (by decide)), if_neg (fun h => absurd (hx.symm.trans h) (by decide))]))
  have b0 : (x == ([101, 114, 114, 111, 114] : List UInt8)) = false := by rw [hx]; rfl
  have b1 : (x == ([100, 97, 116, 97] : List UInt8)) = true := by rw [hx]; rfl
  have b2 : (x == ([115, 116, 97, 116] : List UInt8)) = false := by rw [hx]; rfl
  have b3 : (x == ([108, 105, 115, 116] : List UInt8)) = false := by rw [hx]; rfl
  have l2 : ((ws.length : Int) == 2) = false := by rw [beq_eq_false_iff_ne]; omega
  replace hx := Lib.hid hx
  replace hl := Lib.hid hl
  clear hmem
  have hwn : 0 < ws.length := by omega
  replace hG := Lib.hid hG
  replace hxw := Lib.hid hxw
  replace hx0 := Lib.hid hx0
  go_enter Tryd.func15, Tryd.ntmps15
  go_wp2_with fail
  refine (split_S 32 s _ (hG.out.below ((Below.refl _ _).alloc (Nat.le_refl _) _)) (by omega)).mono ?_
  rintro e w1 ⟨rfl, rfl⟩
  rw [hws]
  replace hws := Lib.hid hws
  go_upto_region 4 with fail
  have hW0 : ∃ W0, (((w.alloc (.cells #[.int .i64 0, .slice none 0 0, .int .i64 0, .int .i64 0, .int .i64 0, .slice none 0 0] 33)).alloc (.cells (ws.map strV).toArray 9)).alloc (.cells #[.int .i64 0, .slice none 0 0, .int .i64 0, .int .i64 0, .int .i64 0, .slice none 0 0] 33)) = W0 ∧
      Box W0 (w.heap.size + 1 + 1) 33 #[.int .i64 0, .slice none 0 0, .int .i64 0, .int .i64 0, .int .i64 0, .slice none 0 0] ∧ Box W0 (w.heap.size + 1) 9 (ws.map strV).toArray ∧ Box W0 w.heap.size 33 #[.int .i64 0, .slice none 0 0, .int .i64 0, .int .i64 0, .int .i64 0, .slice none 0 0] ∧ Below w.heap.size w W0 :=
    ⟨_, rfl, by simpa using Box.new ((w.alloc (.cells #[.int .i64 0, .slice none 0 0, .int .i64 0, .int .i64 0, .int .i64 0, .slice none 0 0] 33)).alloc (.cells (ws.map strV).toArray 9)) 33 _,
      by have h := (Box.new (w.alloc (.cells #[.int .i64 0, .slice none 0 0, .int .i64 0, .int .i64 0, .int .i64 0, .slice none 0 0] 33)) 9 (ws.map strV).toArray); exact (by simpa using h : Box _ _ _ _).alloc _,
      ((Box.new w 33 _).alloc _).alloc _, (((Below.refl _ _).alloc (Nat.le_refl _) _).alloc (by simp) _).alloc (by simp; omega) _⟩
  obtain ⟨W0, hW0e, hbx, htx, hbr, hW0⟩ := hW0
  rw [hW0e]
  clear hW0e
  obtain ⟨b2, hb2⟩ : ∃ b, w.heap.size = b := ⟨_, rfl⟩
  rw [hb2] at hbx htx hbr ⊢
  have hsz0 := hW0.size
  have hlt0 := hbx.lt
  have ct0 := tx_get htx 0 (by omega)
  rw [hx0.out] at ct0
  have ca0 := hbx.get 0 _ rfl
  have ca1 := hbx.get 1 _ rfl
  have ca2 := hbx.get 2 _ rfl
  have ca3 := hbx.get 3 _ rfl
  have ca4 := hbx.get 4 _ rfl
  have ca5 := hbx.get 5 _ rfl
  have hans := Lib.hid (answer_any (0) (Tr.resZero) (.slice none 0 0) (.slice none 0 0) W0 ⟨by decide, by decide⟩ (res_plain 0 0 0 0 ⟨in64_zero, in64_zero, in64_zero, in64_zero⟩ []) (fits_plain 0 0 0 0 [] (by simp)) (Rd.nil _ _) (RdE.nil _))
  have hsz8 := hW0.size
  have hlt8 := hbx.lt
  go_wp2_with fail
  refine hans.out.mono ?_
  rintro e w9 ⟨rfl, hb9⟩
  have bx9 := hbx.below hb9
  have br9 := hbr.below hb9
  have bw9 := hW0.trans (hb9.mono hsz8)
  have od9 := own_below (World.ownsRow_nil W0 (b2 + 1) 5 1) hb9
  have ol9 := own_below (World.ownsRow_nil W0 (b2 + 1) 39 3) hb9
  clear ca0 ca1 ca2 ca3 ca4 ca5 hb9 hans
  have ca0 := bx9.get 0 _ rfl
  have ca1 := bx9.get 1 _ rfl
  have ca2 := bx9.get 2 _ rfl
  have ca3 := bx9.get 3 _ rfl
  have ca4 := bx9.get 4 _ rfl
  have ca5 := bx9.get 5 _ rfl
  have cr0 := br9.get 0 _ rfl
  have cr1 := br9.get 1 _ rfl
  have cr2 := br9.get 2 _ rfl
  have cr3 := br9.get 3 _ rfl
  have cr4 := br9.get 4 _ rfl
  have cr5 := br9.get 5 _ rfl
  have fr0 := br9.frozen 0
  have fr1 := br9.frozen 1
  have fr2 := br9.frozen 2
  have fr3 := br9.frozen 3
  have fr4 := br9.frozen 4
  have fr5 := br9.frozen 5
  obtain ⟨y, hy⟩ : ∃ y, Tr.answer (0) (Tr.resZero) = y := ⟨_, rfl⟩
  rw [hy] at hpa ⊢
  replace hy := Lib.hid hy
  by_cases hys : y = s
  · have hfin := Lib.hid (hpa.out.1 hys)
    have hy1 : (y == s) = true := by simpa using hys
    have hy2 : (y != s) = false := by simp [hys]
    replace hys := Lib.hid hys
    go_wp2_with fail
    obtain ⟨hp6, hb6⟩ := put6 br9 (.int .i64 0) (.slice none 0 0) (.int .i64 0) (.int .i64 0) (.int .i64 0) (.slice none 0 0) bw9 (by omega)
    refine bodyPost_ret (res15 hp6 rfl rfl) rfl ?_
    rw [hfin.out]
    exact ⟨.slice none 0 0, .slice none 0 0, rfl, own_base (own_put6 od9 (Nat.lt_succ_self b2) _ _ _ _ _ _) (by omega), own_base (own_put6 ol9 (Nat.lt_succ_self b2) _ _ _ _ _ _) (by omega), hb6⟩
  · have hfin := Lib.hid (hpa.out.2 hys)
    have hy1 : (y == s) = false := by simpa using hys
    have hy2 : (y != s) = true := by simp [hys]
    replace hys := Lib.hid hys
    go_wp2_with fail
    obtain ⟨hp6, hb6⟩ := put6 br9 (.int .i64 0) (.slice none 0 0) (.int .i64 0) (.int .i64 0) (.int .i64 0) (.slice none 0 0) bw9 (by omega)
    refine bodyPost_ret (res15 hp6 rfl rfl) rfl ?_
    rw [hfin.out]
    exact ⟨_, _, rfl, World.ownsRow_nil _ _ _ _, World.ownsRow_nil _ _ _ _, hb6⟩
set_option maxRecDepth 100000 in
set_option maxHeartbeats 4000000 in
theorem pans_stat_no (s : List UInt8) (w : World) (hG : Gl w) (hs : s.length ≤ 4000000) (ws : List (List UInt8)) (hws : Tr.spl 32 s = ws) (x : List UInt8) (ws' : List (List UInt8)) (hxw : ws = x :: ws') (hx : x = Tr.wStat) (hl : ws.length ≠ 4) :
    Calls Tryd.prog 15 #[.string (S s)] w (AnsRes (Tr.parseAns s) w) := by
  have hx0 : ws.getD 0 [] = x := by rw [hxw]; rfl
  have hwl : 1 ≤ ws.length := by rw [hxw]; simp
  have hwm : ws.length ≤ 4000001 := by rw [← hws]; exact Nat.le_trans (spl_len 32 s) (by omega)
  have hmem : ∀ i, (ws.getD i []).length ≤ 4000000 := fun i => by rw [← hws]; exact Nat.le_trans (getD_len 32 s i) hs
  have hpa := Lib.hid (Tr.parse_pa (s := s) (k := 0) (r := Tr.resZero) hws (by unfold Tr.abuild; rw [hx0, if_neg (fun h => absurd (hx.symm.trans h.1) (by decide)), if_neg (fun h => absurd (hx.symm.trans h.1) (by decide)), if_neg (fun h => hl h.2), if_neg (fun h => absurd (hx.symm.trans h) (by decide))]))
  have b0 : (x == ([101, 114, 114, 111, 114] : List UInt8)) = false := by rw [hx]; rfl
  have b1 : (x == ([100, 97, 116, 97] : List UInt8)) = false := by rw [hx]; rfl
  have b2 : (x == ([115, 116, 97, 116] : List UInt8)) = true := by rw [hx]; rfl
  have b3 : (x == ([108, 105, 115, 116] : List UInt8)) = false := by rw [hx]; rfl
  have l4 : ((ws.length : Int) == 4) = false := by rw [beq_eq_false_iff_ne]; omega
  replace hx := Lib.hid hx
  replace hl := Lib.hid hl
  clear hmem
  have hwn : 0 < ws.length := by omega
  replace hG := Lib.hid hG
  replace hxw := Lib.hid hxw
  replace hx0 := Lib.hid hx0
  go_enter Tryd.func15, Tryd.ntmps15
  go_wp2_with fail
  refine (split_S 32 s _ (hG.out.below ((Below.refl _ _).alloc (Nat.le_refl _) _)) (by omega)).mono ?_
  rintro e w1 ⟨rfl, rfl⟩
  rw [hws]
  replace hws := Lib.hid hws
  go_upto_region 4 with fail
  have hW0 : ∃ W0, (((w.alloc (.cells #[.int .i64 0, .slice none 0 0, .int .i64 0, .int .i64 0, .int .i64 0, .slice none 0 0] 33)).alloc (.cells (ws.map strV).toArray 9)).alloc (.cells #[.int .i64 0, .slice none 0 0, .int .i64 0, .int .i64 0, .int .i64 0, .slice none 0 0] 33)) = W0 ∧
      Box W0 (w.heap.size + 1 + 1) 33 #[.int .i64 0, .slice none 0 0, .int .i64 0, .int .i64 0, .int .i64 0, .slice none 0 0] ∧ Box W0 (w.heap.size + 1) 9 (ws.map strV).toArray ∧ Box W0 w.heap.size 33 #[.int .i64 0, .slice none 0 0, .int .i64 0, .int .i64 0, .int .i64 0, .slice none 0 0] ∧ Below w.heap.size w W0 :=
    ⟨_, rfl, by simpa using Box.new ((w.alloc (.cells #[.int .i64 0, .slice none 0 0, .int .i64 0, .int .i64 0, .int .i64 0, .slice none 0 0] 33)).alloc (.cells (ws.map strV).toArray 9)) 33 _,
      by have h := (Box.new (w.alloc (.cells #[.int .i64 0, .slice none 0 0, .int .i64 0, .int .i64 0, .int .i64 0, .slice none 0 0] 33)) 9 (ws.map strV).toArray); exact (by simpa using h : Box _ _ _ _).alloc _,
      ((Box.new w 33 _).alloc _).alloc _, (((Below.refl _ _).alloc (Nat.le_refl _) _).alloc (by simp) _).alloc (by simp; omega) _⟩
  obtain ⟨W0, hW0e, hbx, htx, hbr, hW0⟩ := hW0
  rw [hW0e]
  clear hW0e
  obtain ⟨b2, hb2⟩ : ∃ b, w.heap.size = b := ⟨_, rfl⟩
  rw [hb2] at hbx htx hbr ⊢
  have hsz0 := hW0.size
  have hlt0 := hbx.lt
  have ct0 := tx_get htx 0 (by omega)
  rw [hx0.out] at ct0
  have ca0 := hbx.get 0 _ rfl
  have ca1 := hbx.get 1 _ rfl
  have ca2 := hbx.get 2 _ rfl
  have ca3 := hbx.get 3 _ rfl
  have ca4 := hbx.get 4 _ rfl
  have ca5 := hbx.get 5 _ rfl
  have hans := Lib.hid (answer_any (0) (Tr.resZero) (.slice none 0 0) (.slice none 0 0) W0 ⟨by decide, by decide⟩ (res_plain 0 0 0 0 ⟨in64_zero, in64_zero, in64_zero, in64_zero⟩ []) (fits_plain 0 0 0 0 [] (by simp)) (Rd.nil _ _) (RdE.nil _))
  have hsz8 := hW0.size
  have hlt8 := hbx.lt
  go_wp2_with fail
  refine hans.out.mono ?_
  rintro e w9 ⟨rfl, hb9⟩
  have bx9 := hbx.below hb9
  have br9 := hbr.below hb9
  have bw9 := hW0.trans (hb9.mono hsz8)
  have od9 := own_below (World.ownsRow_nil W0 (b2 + 1) 5 1) hb9
  have ol9 := own_below (World.ownsRow_nil W0 (b2 + 1) 39 3) hb9
  clear ca0 ca1 ca2 ca3 ca4 ca5 hb9 hans
  have ca0 := bx9.get 0 _ rfl
  have ca1 := bx9.get 1 _ rfl
  have ca2 := bx9.get 2 _ rfl
  have ca3 := bx9.get 3 _ rfl
  have ca4 := bx9.get 4 _ rfl
  have ca5 := bx9.get 5 _ rfl
  have cr0 := br9.get 0 _ rfl
  have cr1 := br9.get 1 _ rfl
  have cr2 := br9.get 2 _ rfl
  have cr3 := br9.get 3 _ rfl
  have cr4 := br9.get 4 _ rfl
  have cr5 := br9.get 5 _ rfl
  have fr0 := br9.frozen 0
  have fr1 := br9.frozen 1
  have fr2 := br9.frozen 2
  have fr3 := br9.frozen 3
  have fr4 := br9.frozen 4
  have fr5 := br9.frozen 5
  obtain ⟨y, hy⟩ : ∃ y, Tr.answer (0) (Tr.resZero) = y := ⟨_, rfl⟩
  rw [hy] at hpa ⊢
  replace hy := Lib.hid hy
  by_cases hys : y = s
  · have hfin := Lib.hid (hpa.out.1 hys)
    have hy1 : (y == s) = true := by simpa using hys
    have hy2 : (y != s) = false := by simp [hys]
    replace hys := Lib.hid hys
    go_wp2_with fail
    obtain ⟨hp6, hb6⟩ := put6 br9 (.int .i64 0) (.slice none 0 0) (.int .i64 0) (.int .i64 0) (.int .i64 0) (.slice none 0 0) bw9 (by omega)
    refine bodyPost_ret (res15 hp6 rfl rfl) rfl ?_
    rw [hfin.out]
    exact ⟨.slice none 0 0, .slice none 0 0, rfl, own_base (own_put6 od9 (Nat.lt_succ_self b2) _ _ _ _ _ _) (by omega), own_base (own_put6 ol9 (Nat.lt_succ_self b2) _ _ _ _ _ _) (by omega), hb6⟩
  · have hfin := Lib.hid (hpa.out.2 hys)
    have hy1 : (y == s) = false := by simpa using hys
    have hy2 : (y != s) = true := by simp [hys]
    replace hys := Lib.hid hys
    go_wp2_with fail
    obtain ⟨hp6, hb6⟩ := put6 br9 (.int .i64 0) (.slice none 0 0) (.int .i64 0) (.int .i64 0) (.int .i64 0) (.slice none 0 0) bw9 (by omega)
    refine bodyPost_ret (res15 hp6 rfl rfl) rfl ?_
    rw [hfin.out]
    exact ⟨_, _, rfl, World.ownsRow_nil _ _ _ _, World.ownsRow_nil _ _ _ _, hb6⟩
end Go.Proofs.YtpoongljokbgcaaDoor
