/- The walk of trace.ParseAnswer, a list (printed by wip/tools/parse15.py). -/
import Derived.Test.YtpoongljokbgcaaDoorAd
namespace Go.Proofs.YtpoongljokbgcaaDoor
open Go.RowKit
theorem Box.grown {W W' : World} {b : Nat} {t : TypeId} {vs : Array Value} {row : Option Nat} (h : Box W b t vs) (hg : W.grownBy W' row) (hne : some b ≠ row) : Box W' b t vs := (hg.block b h.lt hne).trans h
theorem cellsE_snoc (xs : List Ent) (e : Ent) : cellsE (xs ++ [e]) = cellsE xs ++ [.string (S e.name), .int .i64 e.ino, .int .i64 e.kind] := by unfold cellsE; rw [List.flatMap_append]; rfl
set_option maxRecDepth 100000 in
set_option maxHeartbeats 4000000 in
theorem pans_list_nil (s : List UInt8) (w : World) (hG : Gl w) (hs : s.length ≤ 4000000) (ws : List (List UInt8)) (hws : Tr.spl 32 s = ws) (x : List UInt8) (ws' : List (List UInt8)) (hxw : ws = x :: ws') (hx : x = Tr.wList) (hl : ws' = []) :
    Calls Tryd.prog 15 #[.string (S s)] w (AnsRes (Tr.parseAns s) w) := by
  have hx0 : ws.getD 0 [] = x := by rw [hxw]; rfl
  have hwl : 1 ≤ ws.length := by rw [hxw]; simp
  have hwm : ws.length ≤ 4000001 := by rw [← hws]; exact Nat.le_trans (spl_len 32 s) (by omega)
  have hmem : ∀ i, (ws.getD i []).length ≤ 4000000 := fun i => by rw [← hws]; exact Nat.le_trans (getD_len 32 s i) hs
  have hpa := Lib.hid (Tr.parse_pa (s := s) (k := 11) (r := Tr.resZero) hws (by unfold Tr.abuild; rw [hx0, if_neg (fun h => absurd (hx.symm.trans h.1) (by decide)), if_neg (fun h => absurd (hx.symm.trans h.1) (by decide)), if_neg (fun h => absurd (hx.symm.trans h.1) (by decide)), if_pos hx, hxw, hl]; rfl))
  have hle1 : ws.length ≤ 1 := by rw [hxw, hl]; simp
  replace hl := Lib.hid hl
  have b0 : (x == ([101, 114, 114, 111, 114] : List UInt8)) = false := by rw [hx]; rfl
  have b1 : (x == ([100, 97, 116, 97] : List UInt8)) = false := by rw [hx]; rfl
  have b2 : (x == ([115, 116, 97, 116] : List UInt8)) = false := by rw [hx]; rfl
  have b3 : (x == ([108, 105, 115, 116] : List UInt8)) = true := by rw [hx]; rfl
  replace hx := Lib.hid hx
  clear hmem
  have hwn : 0 < ws.length := by omega
  replace hG := Lib.hid hG
  replace hxw := Lib.hid hxw
  replace hx0 := Lib.hid hx0
  go_enter Tryd.func15, Tryd.ntmps15
  go_wp2_with fail
  refine (split_S 32 s _ (hG.out.below ((Below.refl _ _).alloc (Nat.le_refl _) _)) (by omega)).mono ?_
  rintro e w1 ⟨rfl, rfl⟩
  rw [hws]
  replace hws := Lib.hid hws
  go_upto_region 4 with fail
  have hW0 : ∃ W0, (((w.alloc (.cells #[.int .i64 0, .slice none 0 0, .int .i64 0, .int .i64 0, .int .i64 0, .slice none 0 0] 33)).alloc (.cells (ws.map strV).toArray 9)).alloc (.cells #[.int .i64 0, .slice none 0 0, .int .i64 0, .int .i64 0, .int .i64 0, .slice none 0 0] 33)) = W0 ∧
      Box W0 (w.heap.size + 1 + 1) 33 #[.int .i64 0, .slice none 0 0, .int .i64 0, .int .i64 0, .int .i64 0, .slice none 0 0] ∧ Box W0 (w.heap.size + 1) 9 (ws.map strV).toArray ∧ Box W0 w.heap.size 33 #[.int .i64 0, .slice none 0 0, .int .i64 0, .int .i64 0, .int .i64 0, .slice none 0 0] ∧ Below w.heap.size w W0 :=
    ⟨_, rfl, by simpa using Box.new ((w.alloc (.cells #[.int .i64 0, .slice none 0 0, .int .i64 0, .int .i64 0, .int .i64 0, .slice none 0 0] 33)).alloc (.cells (ws.map strV).toArray 9)) 33 _,
      by have h := (Box.new (w.alloc (.cells #[.int .i64 0, .slice none 0 0, .int .i64 0, .int .i64 0, .int .i64 0, .slice none 0 0] 33)) 9 (ws.map strV).toArray); exact (by simpa using h : Box _ _ _ _).alloc _,
      ((Box.new w 33 _).alloc _).alloc _, (((Below.refl _ _).alloc (Nat.le_refl _) _).alloc (by simp) _).alloc (by simp; omega) _⟩
  obtain ⟨W0, hW0e, hbx, htx, hbr, hW0⟩ := hW0
  rw [hW0e]
  clear hW0e
  obtain ⟨b2, hb2⟩ : ∃ b, w.heap.size = b := ⟨_, rfl⟩
  rw [hb2] at hbx htx hbr ⊢
  have hsz0 := hW0.size
  have hlt0 := hbx.lt
  have ct0 := tx_get htx 0 (by omega)
  rw [hx0.out] at ct0
  have hne1 : ((ws.length : Int)) = 1 := by omega
  replace hne1 := Lib.hid hne1
  go_wp2_with fail
  refine wp_loop_rounds 1 ?_
  rw [rounds_succ]
  have ca0 := hbx.get 0 _ rfl
  have ca1 := hbx.get 1 _ rfl
  have ca2 := hbx.get 2 _ rfl
  have ca3 := hbx.get 3 _ rfl
  have ca4 := hbx.get 4 _ rfl
  have ca5 := hbx.get 5 _ rfl
  have hans := Lib.hid (answer_any (11) (Tr.resZero) (.slice none 0 0) (.slice none 0 0) W0 ⟨by decide, by decide⟩ (res_plain 0 0 0 0 ⟨in64_zero, in64_zero, in64_zero, in64_zero⟩ []) (fits_plain 0 0 0 0 [] (by simp)) (Rd.nil _ _) (RdE.nil _))
  have hsz8 := hW0.size
  have hlt8 := hbx.lt
  go_wp2_with fail
  refine hans.out.mono ?_
  rintro e w9 ⟨rfl, hb9⟩
  have bx9 := hbx.below hb9
  have br9 := hbr.below hb9
  have bw9 := hW0.trans (hb9.mono hsz8)
  have od9 := own_below (World.ownsRow_nil W0 (b2 + 1) 5 1) hb9
  have ol9 := own_below (World.ownsRow_nil W0 (b2 + 1) 39 3) hb9
  clear ca0 ca1 ca2 ca3 ca4 ca5 hb9 hans
  have ca0 := bx9.get 0 _ rfl
  have ca1 := bx9.get 1 _ rfl
  have ca2 := bx9.get 2 _ rfl
  have ca3 := bx9.get 3 _ rfl
  have ca4 := bx9.get 4 _ rfl
  have ca5 := bx9.get 5 _ rfl
  have cr0 := br9.get 0 _ rfl
  have cr1 := br9.get 1 _ rfl
  have cr2 := br9.get 2 _ rfl
  have cr3 := br9.get 3 _ rfl
  have cr4 := br9.get 4 _ rfl
  have cr5 := br9.get 5 _ rfl
  have fr0 := br9.frozen 0
  have fr1 := br9.frozen 1
  have fr2 := br9.frozen 2
  have fr3 := br9.frozen 3
  have fr4 := br9.frozen 4
  have fr5 := br9.frozen 5
  obtain ⟨y, hy⟩ : ∃ y, Tr.answer (11) (Tr.resZero) = y := ⟨_, rfl⟩
  rw [hy] at hpa ⊢
  replace hy := Lib.hid hy
  by_cases hys : y = s
  · have hfin := Lib.hid (hpa.out.1 hys)
    have hy1 : (y == s) = true := by simpa using hys
    have hy2 : (y != s) = false := by simp [hys]
    replace hys := Lib.hid hys
    go_wp2_with fail
    obtain ⟨hp6, hb6⟩ := put6 br9 (.int .i64 0) (.slice none 0 0) (.int .i64 0) (.int .i64 0) (.int .i64 0) (.slice none 0 0) bw9 (by omega)
    refine bodyPost_ret (res15 hp6 rfl rfl) rfl ?_
    rw [hfin.out]
    exact ⟨.slice none 0 0, .slice none 0 0, rfl, own_base (own_put6 od9 (Nat.lt_succ_self b2) _ _ _ _ _ _) (by omega), own_base (own_put6 ol9 (Nat.lt_succ_self b2) _ _ _ _ _ _) (by omega), hb6⟩
  · have hfin := Lib.hid (hpa.out.2 hys)
    have hy1 : (y == s) = false := by simpa using hys
    have hy2 : (y != s) = true := by simp [hys]
    replace hys := Lib.hid hys
    go_wp2_with fail
    obtain ⟨hp6, hb6⟩ := put6 br9 (.int .i64 0) (.slice none 0 0) (.int .i64 0) (.int .i64 0) (.int .i64 0) (.slice none 0 0) bw9 (by omega)
    refine bodyPost_ret (res15 hp6 rfl rfl) rfl ?_
    rw [hfin.out]
    exact ⟨_, _, rfl, World.ownsRow_nil _ _ _ _, World.ownsRow_nil _ _ _ _, hb6⟩
set_option maxRecDepth 100000 in
set_option maxHeartbeats 4000000 in
theorem pans_list_some (s : List UInt8) (w : World) (hG : Gl w) (hs : s.length ≤ 4000000) (ws : List (List UInt8)) (hws : Tr.spl 32 s = ws) (x : List UInt8) (ws' : List (List UInt8)) (hxw : ws = x :: ws') (hx : x = Tr.wList) (n : Nat) (hn : ws.length = n + 1) (hn0 : 1 ≤ n) :
    Calls Tryd.prog 15 #[.string (S s)] w (AnsRes (Tr.parseAns s) w) := by
  have hx0 : ws.getD 0 [] = x := by rw [hxw]; rfl
  have hwl : 1 ≤ ws.length := by rw [hxw]; simp
  have hwm : ws.length ≤ 4000001 := by rw [← hws]; exact Nat.le_trans (spl_len 32 s) (by omega)
  have hmem : ∀ i, (ws.getD i []).length ≤ 4000000 := fun i => by rw [← hws]; exact Nat.le_trans (getD_len 32 s i) hs
  have hpa := Lib.hid (Tr.parse_pa (s := s) (k := 11) (r := ⟨0, [], 0, 0, 0, ws'.map Tr.toEnt⟩) hws (by unfold Tr.abuild; rw [hx0, if_neg (fun h => absurd (hx.symm.trans h.1) (by decide)), if_neg (fun h => absurd (hx.symm.trans h.1) (by decide)), if_neg (fun h => absurd (hx.symm.trans h.1) (by decide)), if_pos hx, hxw]; rfl))
  have hge2 : 2 ≤ ws.length := by omega
  have hnm : n ≤ 4000000 := by omega
  have b0 : (x == ([101, 114, 114, 111, 114] : List UInt8)) = false := by rw [hx]; rfl
  have b1 : (x == ([100, 97, 116, 97] : List UInt8)) = false := by rw [hx]; rfl
  have b2 : (x == ([115, 116, 97, 116] : List UInt8)) = false := by rw [hx]; rfl
  have b3 : (x == ([108, 105, 115, 116] : List UInt8)) = true := by rw [hx]; rfl
  replace hx := Lib.hid hx
  replace hmem := Lib.hid hmem
  have hnw : ws'.length = n := by rw [hxw] at hn; simpa using hn
  replace hn := Lib.hid hn
  have hwn : 0 < n + 1 := by omega
  replace hG := Lib.hid hG
  replace hxw := Lib.hid hxw
  replace hx0 := Lib.hid hx0
  go_enter Tryd.func15, Tryd.ntmps15
  go_wp2_with fail
  refine (split_S 32 s _ (hG.out.below ((Below.refl _ _).alloc (Nat.le_refl _) _)) (by omega)).mono ?_
  rintro e w1 ⟨rfl, rfl⟩
  rw [hws]
  rw [hn]
  replace hws := Lib.hid hws
  go_upto_region 4 with fail
  have hW0 : ∃ W0, (((w.alloc (.cells #[.int .i64 0, .slice none 0 0, .int .i64 0, .int .i64 0, .int .i64 0, .slice none 0 0] 33)).alloc (.cells (ws.map strV).toArray 9)).alloc (.cells #[.int .i64 0, .slice none 0 0, .int .i64 0, .int .i64 0, .int .i64 0, .slice none 0 0] 33)) = W0 ∧
      Box W0 (w.heap.size + 1 + 1) 33 #[.int .i64 0, .slice none 0 0, .int .i64 0, .int .i64 0, .int .i64 0, .slice none 0 0] ∧ Box W0 (w.heap.size + 1) 9 (ws.map strV).toArray ∧ Box W0 w.heap.size 33 #[.int .i64 0, .slice none 0 0, .int .i64 0, .int .i64 0, .int .i64 0, .slice none 0 0] ∧ Below w.heap.size w W0 :=
    ⟨_, rfl, by simpa using Box.new ((w.alloc (.cells #[.int .i64 0, .slice none 0 0, .int .i64 0, .int .i64 0, .int .i64 0, .slice none 0 0] 33)).alloc (.cells (ws.map strV).toArray 9)) 33 _,
      by have h := (Box.new (w.alloc (.cells #[.int .i64 0, .slice none 0 0, .int .i64 0, .int .i64 0, .int .i64 0, .slice none 0 0] 33)) 9 (ws.map strV).toArray); exact (by simpa using h : Box _ _ _ _).alloc _,
      ((Box.new w 33 _).alloc _).alloc _, (((Below.refl _ _).alloc (Nat.le_refl _) _).alloc (by simp) _).alloc (by simp; omega) _⟩
  obtain ⟨W0, hW0e, hbx, htx, hbr, hW0⟩ := hW0
  rw [hW0e]
  clear hW0e
  obtain ⟨b2, hb2⟩ : ∃ b, w.heap.size = b := ⟨_, rfl⟩
  rw [hb2] at hbx htx hbr ⊢
  have hsz0 := hW0.size
  have hlt0 := hbx.lt
  have ct0 := tx_get htx 0 (by have := hn.out; omega)
  rw [hx0.out] at ct0
  obtain ⟨i0, hi0, hz0, hz1, hz2⟩ := info_parts infoEnt
  go_wp2_with fail
  go_loopw [100] (fun k wr => ∃ (i : Nat) (la : Option Addr) (lc : Nat), i ≤ n ∧ k = .int .i64 i ∧ Box wr (b2 + 1 + 1) 33 #[.int .i64 0, .slice none 0 0, .int .i64 0, .int .i64 0, .int .i64 0, .slice la i lc] ∧ wr.ownsRow (b2 + 1 + 1 + 1) 39 3 (.slice la i lc) i (cellsE ((ws'.take i).map Tr.toEnt)) ∧ Box wr (b2 + 1) 9 (ws.map strV).toArray ∧ Box wr b2 33 #[.int .i64 0, .slice none 0 0, .int .i64 0, .int .i64 0, .int .i64 0, .slice none 0 0] ∧ Below w.heap.size w wr)
    (fun k _ => n - (intOf k).toNat)
  case atStart => exact ⟨0, none, 0, by omega, rfl, hbx, World.ownsRow_nil _ _ _ _, htx, hbr, hW0⟩
  case round =>
    clear hbx htx hbr hW0 ct0
    obtain ⟨i, la, lc, hi, rfl, bx0, ol0, tx0, br0, bw0⟩ := hrel
    have hz0' := bw0.size
    have hlx := bx0.lt
    by_cases hlt : i < n
    · obtain ⟨y, hy⟩ : ∃ y, ws'[i]? = some y := ⟨_, List.getElem?_eq_getElem (by omega)⟩
      have hyd : ws.getD (1 + i) [] = y := by rw [hxw.out, List.getD_eq_getElem?_getD, Nat.add_comm, List.getElem?_cons_succ, hy]; rfl
      have hyl : y.length ≤ 4000000 := by rw [← hyd]; exact hmem.out _
      have ct := tx_get tx0 (1 + i) (by have := hn.out; omega)
      rw [hyd] at ct
      have htk := Lib.hid (show ws'.take (i + 1) = ws'.take i ++ [y] by rw [List.take_add_one, hy]; rfl)
      have hcl := Tr.cut_len y [58]
      have hG1 := Lib.hid (hG.out.below bw0)
      have hte := Lib.hid (show Tr.toEnt y = ⟨(Tr.unq (Lib.cut y [58]).1).getD [], 0, (Tr.pnum (Lib.cut y [58]).2.1).1⟩ from rfl)
      have hC := cut_S y wr hG1.out (by omega)
      obtain ⟨⟨p, q, g⟩, hcut⟩ : ∃ z, Lib.cut y [58] = z := ⟨_, rfl⟩
      rw [hcut] at hcl hte hC
      dsimp only at hcl hte hC
      have hU := fun W => unquote_pair p W (by omega)
      have hN := fun W => parseNum_any q W (by omega)
      obtain ⟨P, eP⟩ : ∃ P, (Tr.unq p).getD [] = P := ⟨_, rfl⟩
      obtain ⟨⟨N, o⟩, eN⟩ : ∃ P, Tr.pnum q = P := ⟨_, rfl⟩
      obtain ⟨z1, ez⟩ : ∃ z : Int, (if (Tr.unq p).isSome then 0 else 270) = z := ⟨_, rfl⟩
      rw [eP, ez] at hU
      rw [eN] at hN
      rw [eP, eN] at hte
      dsimp only at hte
      clear eP eN ez hcut hcl
      replace hU := Lib.hid hU
      replace hN := Lib.hid hN
      replace hC := Lib.hid hC
      replace hyd := Lib.hid hyd
      replace hy := Lib.hid hy
      have hI0 : (0 : Int) ≤ (i : Int) := by omega
      have hI1 : (i : Int) < (n : Int) := by omega
      go_wp2_with fail
      refine hC.out.mono ?_
      rintro e w1 ⟨rfl, nd, rfl⟩
      go_wp2_with fail
      refine (hU.out _).mono ?_
      rintro e w2 ⟨rfl, hb2'⟩
      have hb2 : Below wr.heap.size wr w2 := ⟨hb2'.os, hb2'.tape, hb2'.output, hb2'.size, hb2'.block⟩
      clear hb2'
      go_wp2_with fail
      refine (hN.out _).mono ?_
      rintro e w3 ⟨rfl, hb3⟩
      have hb4 := hb2.trans (hb3.mono hb2.size)
      have bx1 := bx0.below hb4
      have ol1 := own_below ol0 hb4
      have tx1 := tx0.below hb4
      have br1 := br0.below hb4
      have bw1 := bw0.trans (hb4.mono hz0')
      have hs4 := hb4.size
      clear hb2 hb3 hb4
      have cs5 := bx1.get 5 _ rfl
      have hlx1 := bx1.lt
      go_wp2_with (at_builtin; refine wpList_append_lies _ rfl _ _ 31 rfl (b2 + 1 + 1 + 1) 39 i0 (.agg #[.string ⟨#[]⟩, .int .i64 0, .int .i64 0]) 3 32 Tryd.underlying31 hi0 hz0 hz1 hz2 rfl (by decide) (.slice la i lc) i (cellsE ((ws'.take i).map Tr.toEnt)) rfl (ol1.alloc _) ⟨w3.heap.size, 0, none⟩ 1 1 [.string (S P), .int .i64 0, .int .i64 N] rfl rfl (World.news_of_block (heap_alloc_new w3 (.cells #[.string (S P), .int .i64 0, .int .i64 N] 39))) (by simp [Value.oneCell']) (by omega) (by unfold maxLen; omega) (by omega) (by rw [World.size_alloc]; omega) _ rfl ?_; intro vg vc w5 hown5 hgrow _ _; (have hne : ∀ b, b < b2 + 1 + 1 + 1 → some b ≠ (Value.slice la i lc).ownBlock := fun b hb h => by have := (ol1.lt _ h.symm).1; omega); (have bx5 := (bx1.alloc (.cells #[.string (S P), .int .i64 0, .int .i64 N] 39)).grown hgrow (hne _ (by omega))); (have tx5 := (tx1.alloc (.cells #[.string (S P), .int .i64 0, .int .i64 N] 39)).grown hgrow (hne _ (by omega))); (have br5 := (br1.alloc (.cells #[.string (S P), .int .i64 0, .int .i64 N] 39)).grown hgrow (hne _ (by omega))); (have bw5 : Below w.heap.size w w5 := (bw1.alloc (by omega) _).grown hgrow (by rw [World.size_alloc]; omega) (fun k hk => by have := (ol1.lt k hk).1; omega)); (have cs6 := bx5.get 5 _ rfl); (have fs6 := bx5.frozen 5))
      go_roundw
      case rel =>
        refine ⟨i + 1, some ⟨vg, 0, none⟩, vc, by omega, by go_num, by simpa using bx5.set 5 (.slice (some ⟨vg, 0, none⟩) (i + 1) vc), ?_, tx5.setFar _ _ (by show b2 + 1 + 1 ≠ b2 + 1; omega), br5.setFar _ _ (by show b2 + 1 + 1 ≠ b2; omega), bw5.setCell (p := ⟨b2 + 1 + 1, 5, none⟩) (by show w.heap.size ≤ b2 + 1 + 1; omega) _⟩
        refine own_setFar (a := ⟨b2 + 1 + 1, 5, none⟩) ?_ (by show b2 + 1 + 1 < b2 + 1 + 1 + 1; omega) _
        rw [htk.out, List.map_append, List.map_cons, List.map_nil, cellsE_snoc, hte.out]
        exact hown5
      case measure => simp [intOf]; omega
    · have hi' : i = n := by omega
      subst hi'
      have htk : ws'.take i = ws' := List.take_of_length_le (by omega)
      rw [htk] at ol0
      have hen := ents_fit ws' (by omega) (fun z hz => by
        obtain ⟨j, hj, e⟩ := List.getElem_of_mem hz
        have := hmem.out (j + 1)
        rw [hxw.out, List.getD_eq_getElem?_getD, List.getElem?_cons_succ, List.getElem?_eq_getElem hj, e] at this
        exact this)
      have hle' : (ws'.map Tr.toEnt).length = i := by rw [List.length_map]; omega
      have ol1 : wr.ownsRow (b2 + 1 + 1 + 1) 39 3 (.slice la i lc) (ws'.map Tr.toEnt).length (cellsE (ws'.map Tr.toEnt)) := by rw [hle']; exact ol0
      have hE := RdE.of_own ol1
      replace hnw := Lib.hid hnw
      replace htk := Lib.hid htk
      replace hle' := Lib.hid hle'
      have ca0 := bx0.get 0 _ rfl
      have ca1 := bx0.get 1 _ rfl
      have ca2 := bx0.get 2 _ rfl
      have ca3 := bx0.get 3 _ rfl
      have ca4 := bx0.get 4 _ rfl
      have ca5 := bx0.get 5 _ rfl
      have hans := Lib.hid (answer_any (11) (⟨0, [], 0, 0, 0, ws'.map Tr.toEnt⟩) (.slice none 0 0) (.slice la i lc) wr ⟨by decide, by decide⟩ hen.1 hen.2 (Rd.nil _ _) hE)
      have hsz8 := bw0.size
      have hlt8 := bx0.lt
      go_wp2_with fail
      refine hans.out.mono ?_
      rintro e w9 ⟨rfl, hb9⟩
      have bx9 := bx0.below hb9
      have br9 := br0.below hb9
      have bw9 := bw0.trans (hb9.mono hsz8)
      have od9 := own_below (World.ownsRow_nil wr (b2 + 1) 5 1) hb9
      have ol9 := own_below (own_base (base' := b2 + 1) ol1 (by omega)) hb9
      clear ca0 ca1 ca2 ca3 ca4 ca5 hb9 hans
      have ca0 := bx9.get 0 _ rfl
      have ca1 := bx9.get 1 _ rfl
      have ca2 := bx9.get 2 _ rfl
      have ca3 := bx9.get 3 _ rfl
      have ca4 := bx9.get 4 _ rfl
      have ca5 := bx9.get 5 _ rfl
      have cr0 := br9.get 0 _ rfl
      have cr1 := br9.get 1 _ rfl
      have cr2 := br9.get 2 _ rfl
      have cr3 := br9.get 3 _ rfl
      have cr4 := br9.get 4 _ rfl
      have cr5 := br9.get 5 _ rfl
      have fr0 := br9.frozen 0
      have fr1 := br9.frozen 1
      have fr2 := br9.frozen 2
      have fr3 := br9.frozen 3
      have fr4 := br9.frozen 4
      have fr5 := br9.frozen 5
      obtain ⟨y, hy⟩ : ∃ y, Tr.answer (11) (⟨0, [], 0, 0, 0, ws'.map Tr.toEnt⟩) = y := ⟨_, rfl⟩
      rw [hy] at hpa ⊢
      replace hy := Lib.hid hy
      by_cases hys : y = s
      · have hfin := Lib.hid (hpa.out.1 hys)
        have hy1 : (y == s) = true := by simpa using hys
        have hy2 : (y != s) = false := by simp [hys]
        replace hys := Lib.hid hys
        go_wp2_with fail
        obtain ⟨hp6, hb6⟩ := put6 br9 (.int .i64 0) (.slice none 0 0) (.int .i64 0) (.int .i64 0) (.int .i64 0) (.slice la i lc) bw9 (by omega)
        refine bodyPost_ret (res15 hp6 rfl rfl) rfl ?_
        rw [hfin.out]
        exact ⟨.slice none 0 0, .slice la i lc, rfl, own_base (own_put6 od9 (Nat.lt_succ_self b2) _ _ _ _ _ _) (by omega), own_base (own_put6 ol9 (Nat.lt_succ_self b2) _ _ _ _ _ _) (by omega), hb6⟩
      · have hfin := Lib.hid (hpa.out.2 hys)
        have hy1 : (y == s) = false := by simpa using hys
        have hy2 : (y != s) = true := by simp [hys]
        replace hys := Lib.hid hys
        go_wp2_with fail
        obtain ⟨hp6, hb6⟩ := put6 br9 (.int .i64 0) (.slice none 0 0) (.int .i64 0) (.int .i64 0) (.int .i64 0) (.slice none 0 0) bw9 (by omega)
        refine bodyPost_ret (res15 hp6 rfl rfl) rfl ?_
        rw [hfin.out]
        exact ⟨_, _, rfl, World.ownsRow_nil _ _ _ _, World.ownsRow_nil _ _ _ _, hb6⟩
end Go.Proofs.YtpoongljokbgcaaDoor
