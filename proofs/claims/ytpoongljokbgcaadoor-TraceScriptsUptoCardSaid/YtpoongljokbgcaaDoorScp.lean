import Derived.Test.YtpoongljokbgcaaDoorScf
import Derived.Test.YtpoongljokbgcaaDoorScl
import Derived.Test.YtpoongljokbgcaaDoorSco
import Derived.Test.YtpoongljokbgcaaDoorSch
import Derived.Test.YtpoongljokbgcaaDoorSci
import Derived.Test.YtpoongljokbgcaaDoorSck
import Derived.Test.YtpoongljokbgcaaDoorScn
/- The reference's lines of a text (slipwayref27.Lines). -/
namespace Go.Proofs.YtpoongljokbgcaaDoor
open Go.RowKit
/-- What stands at the head of the loop: the lines so far, the line that is under way. -/
structure LInv (s : List UInt8) (i f : Nat) (out : List (List UInt8)) : Prop where
  len : out.length ≤ i
  le : i ≤ s.length
  from_ : f ≤ i
  no : (10 : UInt8) ∉ (s.take i).drop f
  eq : Tr.lns s = out ++ Tr.lns ((s.take i).drop f ++ s.drop i)
theorem LInv.zero (s : List UInt8) : LInv s 0 0 [] := ⟨Nat.le_refl _, Nat.zero_le _, Nat.le_refl _, by simp, by simp⟩
theorem LInv.other {s : List UInt8} {i f : Nat} {out : List (List UInt8)} (h : LInv s i f out) (hi : i < s.length) (hc : s[i] ≠ 10) : LInv s (i + 1) f out := by
  obtain ⟨h0, h1, h2, h3, h4⟩ := h
  have ht : (s.take (i + 1)).drop f = (s.take i).drop f ++ [s[i]] := by
    rw [List.take_succ_eq_append_getElem hi, List.drop_append_of_le_length (by simp; omega)]
  refine ⟨by omega, by omega, by omega, ?_, ?_⟩
  · rw [ht]; simp only [List.mem_append, List.mem_cons, List.not_mem_nil, or_false, not_or]
    exact ⟨h3, fun e => hc e.symm⟩
  · rw [ht, h4, List.drop_eq_getElem_cons hi]; simp
theorem LInv.nl {s : List UInt8} {i f : Nat} {out : List (List UInt8)} (h : LInv s i f out) (hi : i < s.length) (hc : s[i] = 10) : LInv s (i + 1) (i + 1) (out ++ [(s.take i).drop f]) := by
  obtain ⟨h0, h1, h2, h3, h4⟩ := h
  have ht : (s.take (i + 1)).drop (i + 1) = [] := by rw [List.drop_eq_nil_iff]; simp; omega
  refine ⟨by simp; omega, by omega, by omega, by rw [ht]; simp, ?_⟩
  rw [ht, h4, List.drop_eq_getElem_cons hi, hc, Tr.lns_at _ _ h3]; simp
theorem LInv.endMore {s : List UInt8} {f : Nat} {out : List (List UInt8)} (h : LInv s s.length f out) (hf : f < s.length) : Tr.lns s = out ++ [s.drop f] := by
  obtain ⟨h0, h1, h2, h3, h4⟩ := h
  rw [List.take_length] at h3 h4
  rw [h4, List.drop_length, List.append_nil, Tr.lns_last _ h3 (by intro e; have := congrArg List.length e; simp at this; omega)]
theorem LInv.endAll {s : List UInt8} {f : Nat} {out : List (List UInt8)} (h : LInv s s.length f out) (hf : ¬ f < s.length) : Tr.lns s = out := by
  obtain ⟨h0, h1, h2, h3, h4⟩ := h
  rw [List.take_length] at h3 h4
  have : s.drop f = [] := by rw [List.drop_eq_nil_iff]; omega
  rw [h4, List.drop_length, this]; simp [Tr.lns_nil]
set_option maxRecDepth 100000 in
set_option maxHeartbeats 4000000 in
theorem linesr_any (s : List UInt8) (w : World) (hs : s.length ≤ 4000000) :
    Calls Tryd.prog 35 #[.string (S s)] w (OwnTexts (Tr.lns s) w) := by
  obtain ⟨i0, hi0, hz0, hz1, hz2⟩ := info_parts infoStr
  go_enter Tryd.func35, Tryd.ntmps35
  go_wp2_with fail
  go_loopw [3, 4, 5] (fun o f k wr => ∃ (i j : Nat) (out : List (List UInt8)), k = .int .i64 i ∧ f = .int .i64 j ∧ LInv s i j out ∧ wr.ownsRow w.heap.size 9 1 o out.length (out.map strV) ∧ Below w.heap.size w wr)
    (fun _ _ k _ => s.length - (intOf k).toNat)
  case atStart => exact ⟨0, 0, [], rfl, rfl, LInv.zero s, World.ownsRow_nil _ _ _ _, Below.refl _ _⟩
  case round =>
    obtain ⟨i, j, out, rfl, rfl, hinv, hown, hW⟩ := hrel
    have hsz := hW.size
    have hol := hinv.len
    have hji := hinv.from_
    have hle := hinv.le
    by_cases hlt : i < s.length
    · by_cases h10 : s[i] = 10
      · have hnx := Lib.hid (hinv.nl hlt h10)
        replace hinv := Lib.hid hinv
        have hb : ((s[i].toNat : Int) == 10) = true := by rw [h10]; rfl
        replace h10 := Lib.hid h10
        go_wp2_with (at_builtin; refine wpList_append_lies _ rfl _ _ 58 rfl w.heap.size 9 i0 (.string ⟨#[]⟩) 1 16 Tryd.underlying58 hi0 hz0 hz1 hz2 rfl (by decide) _ out.length (out.map strV) rfl (hown.alloc _) ⟨wr.heap.size, 0, none⟩ 1 1 [.string (S ((s.take i).drop j))] rfl rfl (World.news_of_block (heap_alloc_new wr (.cells #[.string (S ((s.take i).drop j))] 9))) (by simp [Value.oneCell']) (by omega) (by unfold maxLen; omega) (by omega) (by rw [World.size_alloc]; omega) _ rfl ?_; intro vg vc w1 hown1 hgrow _ _)
        go_roundw
        case rel => exact ⟨i + 1, i + 1, out ++ [(s.take i).drop j], by go_num, by go_num, hnx.out, by rw [List.length_append, List.map_append]; exact hown1, (hW.alloc hsz _).grown hgrow (by rw [World.size_alloc]; omega) (fun k hk => (hown.lt k hk).1)⟩
        case measure => simp [intOf]; omega
      · have hnx := Lib.hid (hinv.other hlt h10)
        replace hinv := Lib.hid hinv
        have hb : ((s[i].toNat : Int) == 10) = false := beq_eq_false_iff_ne.2 (fun e => h10 (UInt8.toNat_inj.1 (by show s[i].toNat = 10; omega)))
        replace h10 := Lib.hid h10
        go_wp2_with fail
        go_roundw
        case rel => exact ⟨i + 1, j, out, by go_num, rfl, hnx.out, hown, hW⟩
        case measure => simp [intOf]; omega
    · obtain rfl : i = s.length := by omega
      by_cases hf : j < s.length
      · have hfin := Lib.hid (hinv.endMore hf)
        replace hinv := Lib.hid hinv
        go_wp2_with (at_builtin; refine wpList_append_lies _ rfl _ _ 58 rfl w.heap.size 9 i0 (.string ⟨#[]⟩) 1 16 Tryd.underlying58 hi0 hz0 hz1 hz2 rfl (by decide) _ out.length (out.map strV) rfl (hown.alloc _) ⟨wr.heap.size, 0, none⟩ 1 1 [.string (S (s.drop j))] rfl rfl (World.news_of_block (heap_alloc_new wr (.cells #[.string (S (s.drop j))] 9))) (by simp [Value.oneCell']) (by omega) (by unfold maxLen; omega) (by omega) (by rw [World.size_alloc]; omega) _ rfl ?_; intro vg vc w1 hown1 hgrow _ _)
        go_ret
        rw [hfin.out]
        exact ⟨_, rfl, by rw [List.length_append, List.map_append]; exact hown1, (hW.alloc hsz _).grown hgrow (by rw [World.size_alloc]; omega) (fun k hk => (hown.lt k hk).1)⟩
      · have hfin := Lib.hid (hinv.endAll hf)
        replace hinv := Lib.hid hinv
        go_wp2_with fail
        go_ret
        rw [hfin.out]
        exact ⟨_, rfl, hown, hW⟩
end Go.Proofs.YtpoongljokbgcaaDoor
/- The reference's calls of a text (slipwayref27.Script). -/
namespace Go.Proofs.YtpoongljokbgcaaDoor
open Go.RowKit
theorem parser_far' (s : List UInt8) (w : World) (hP : Pw w) (hs : s.length ≤ 1000000) :
    Calls Tryd.prog 26 #[.string (S s)] w (OpRf (Tr.parse s) w) := by
  have := parser_far s w hP hs
  rwa [Tr.parse_eq] at this
set_option maxRecDepth 100000 in
set_option maxHeartbeats 8000000 in
theorem scriptr_any (t : List UInt8) (w : World) (hP : Pw w) (ht : t.length ≤ 1000000) :
    Calls Tryd.prog 32 #[.string (S t)] w (ScrRes (Tr.script t) w) := by
  rw [Tr.script_ref]
  by_cases hbig : 65536 < t.length
  · have hb : ((t.length : Int) > 65536) := by omega
    rw [if_pos hbig]
    go_enter Tryd.func32, Tryd.ntmps32
    go_wp2_with fail
    go_ret3
    exact scrRes_mk rfl rfl (RdO.nil _) (Below.refl _ _)
  rw [if_neg hbig]
  obtain ⟨i0, hi0, hz0, hz1, hz2⟩ := info_parts infoOp
  have hb : ¬ ((t.length : Int) > 65536) := by omega
  have hll := Tr.lns_len t.length t (Nat.le_refl _)
  have hlm := Tr.lns_mem t.length t (Nat.le_refl _)
  have hlne : Tr.lns t ≠ [] → t ≠ [] := fun h e => h (by subst e; rfl)
  have hlr := linesr_any t
  obtain ⟨ls, hls⟩ : ∃ ls, Tr.lns t = ls := ⟨_, rfl⟩
  rw [hls] at hll hlm hlr hlne ⊢
  replace hls := Lib.hid hls
  have hL := Lib.hid (hlr w (by omega))
  replace hlm := Lib.hid hlm
  replace hlne := Lib.hid hlne
  replace hP := Lib.hid hP
  obtain ⟨R, hR⟩ : ∃ R, Tr.scrR t [] ls = R := ⟨_, rfl⟩
  rw [hR]
  replace hR := Lib.hid hR
  clear hlr
  go_enter Tryd.func32, Tryd.ntmps32
  go_wp2_with fail
  refine hL.out.mono ?_
  rintro e w1 ⟨lv, rfl, hlo, hb1⟩
  have hlrd := Rd.of_own (enc := strV) hlo
  have hat : ls ≠ [] → _ := hlrd.at
  obtain ⟨la, lc, rfl⟩ := hlrd.len
  replace hat := Lib.hid hat
  replace hL := Lib.hid hlo
  clear hlo hlrd
  have hz1' := hb1.size
  replace hb1 := Lib.hid hb1
  go_wp2_with fail
  go_loopw [6, 7] (fun v i wr => ∃ (k : Nat) (ds : List (Opr × Value)) (ao : Option Addr) (cp : Nat), k ≤ ls.length ∧ i = .int .i64 k ∧ v = .slice ao k cp ∧ ds.length = k ∧ OwnO wr w1.heap.size (.slice ao k cp) ds ∧ Below w1.heap.size w1 wr ∧ Tr.scrR t (ds.map Prod.fst) (ls.drop k) = R)
    (fun _ i _ => ls.length - (intOf i).toNat)
  case atStart => exact ⟨0, [], none, 0, Nat.zero_le _, rfl, rfl, rfl, OwnO.nil _ _, Below.refl _ _, hR.out⟩
  case round =>
    obtain ⟨k, ds, ao, cp, hk, rfl, rfl, hdl, hO, hW, hT⟩ := hrel
    have hsz := hW.size
    by_cases hlt : k < ls.length
    · have hne : ls ≠ [] := by intro h; rw [h] at hlt; simp at hlt
      obtain ⟨bk, o, cap', hv, hcap, hbk, hcell⟩ := hat.out hne
      cases hv
      have hc0 := hcell k hlt
      rw [← hW.cell (p := ⟨bk, o + k, none⟩) hbk] at hc0
      have hxl := hlm.out ls[k] (List.getElem_mem hlt)
      have hdr := Lib.hid (show ls.drop k = ls[k] :: ls.drop (k + 1) from List.drop_eq_getElem_cons hlt)
      obtain ⟨x, hx⟩ : ∃ x, ls[k] = x := ⟨_, rfl⟩
      rw [hx] at hc0 hxl hdr
      unfold strV at hc0
      replace hx := Lib.hid hx
      have hpr := fun W hP => parser_far' x W hP (by omega)
      have hl0 := List.length_pos_iff.2 (hlne.out hne)
      replace hne := Lib.hid hne
      replace hcell := Lib.hid hcell
      clear hat hcell
      replace hO := Lib.hid hO
      replace hT := Lib.hid hT
      have hWw := Lib.hid (hb1.out.trans (hW.mono hz1'))
      replace hW := Lib.hid hW
      cases hp : Tr.parse x with
      | none =>
        rw [hp] at hpr
        have hfin := Lib.hid (show R = ([], (k : Int) + 1, 270) by
          rw [← hT.out, hdr.out, Tr.scrR, hp]
          simp [hdl])
        replace hp := Lib.hid hp
        replace hpr := Lib.hid hpr
        replace hdl := Lib.hid hdl
        go_wp2_with fail
        refine (hpr.out _ (hP.out.below hWw.out)).mono ?_
        rintro e w2 ⟨ad, cp2, rfl, hrd, hfa, hb2⟩
        replace hrd := Lib.hid hrd
        replace hfa := Lib.hid hfa
        have hW2 := Lib.hid (hWw.out.trans (hb2.mono hWw.out.size))
        unfold opV
        go_wp2_with fail
        go_ret3
        exact scrRes_mk hfin.out rfl (RdO.nil _) (hW2.out.alloc hW2.out.size _)
      | some op =>
        rw [hp] at hpr
        have hT1 := Lib.hid (show (if ls.drop (k + 1) = [] ∧ Tr.nl t = false then ([], (k : Int) + 1, 270) else Tr.scrR t (ds.map Prod.fst ++ [op]) (ls.drop (k + 1))) = R by
          rw [← hT.out, hdr.out, Tr.scrR, hp]
          simp [hdl])
        replace hp := Lib.hid hp
        replace hpr := Lib.hid hpr
        have hdl' := Lib.hid hdl
        clear hdl
        have hnl := (nl_last t (by intro e; subst e; simp at hl0))
        rw [List.getD_eq_getElem?_getD] at hnl
        replace hnl := Lib.hid hnl
        obtain ⟨xk, xp, xt, xf, xn, xl⟩ := op
        unfold OpRf opV at hpr
        simp only [Option.getD_some, Option.isSome_some, if_true] at hpr
        replace hpr := Lib.hid hpr
        by_cases hlast : k + 1 = ls.length ∧ (t[t.length - 1]?.getD 0) ≠ 10
        · obtain ⟨hl1, hc10⟩ := hlast
          have e1 : ((k : Int) == (ls.length : Int) - 1) = true := beq_iff_eq.2 (by omega)
          have e2 : (((t[t.length - 1]?.getD 0).toNat : Int) != 10) = true := byte_bne _ 10 hc10
          have e3 : (((t[t.length - 1]?.getD 0).toNat : Int) == 10) = false := byte_ne _ 10 hc10
          have hfin := Lib.hid (show R = ([], (k : Int) + 1, 270) by
            rw [← hT1.out, if_pos ⟨List.drop_eq_nil_iff.2 (by omega), by rw [hnl.out, decide_eq_false_iff_not]; exact hc10⟩])
          replace hl1 := Lib.hid hl1
          replace hc10 := Lib.hid hc10
          go_wp2_with fail
          refine (hpr.out _ (hP.out.below hWw.out)).mono ?_
          rintro e w2 ⟨ad, cp2, rfl, hrd, hfa, hb2⟩
          replace hrd := Lib.hid hrd
          replace hfa := Lib.hid hfa
          have hW2 := Lib.hid (hWw.out.trans (hb2.mono hWw.out.size))
          replace hb2 := Lib.hid hb2
          go_wp2_with fail
          go_ret3
          exact scrRes_mk hfin.out rfl (RdO.nil _) (hW2.out.alloc hW2.out.size _)
        · have hT2 := Lib.hid (show Tr.scrR t (ds.map Prod.fst ++ [⟨xk, xp, xt, xf, xn, xl⟩]) (ls.drop (k + 1)) = R by
            rw [← hT1.out, if_neg]
            rintro ⟨h1, h2⟩
            rw [List.drop_eq_nil_iff] at h1
            rw [hnl.out, decide_eq_false_iff_not] at h2
            exact hlast ⟨by omega, h2⟩)
          have hcase : ((k : Int) == (ls.length : Int) - 1) = false ∨ (((k : Int) == (ls.length : Int) - 1) = true ∧ (((t[t.length - 1]?.getD 0).toNat : Int) == 10) = true ∧ (((t[t.length - 1]?.getD 0).toNat : Int) != 10) = false) := by
            by_cases hl1 : k + 1 = ls.length
            · have h10 : (t[t.length - 1]?.getD 0) = 10 := Decidable.byContradiction fun h => hlast ⟨hl1, h⟩
              exact .inr ⟨beq_iff_eq.2 (by omega), by rw [h10]; rfl, by rw [h10]; rfl⟩
            · exact .inl (beq_eq_false_iff_ne.2 (by omega))
          clear hlast
          rcases hcase with e1 | ⟨e1, e2, e3⟩
          all_goals
            go_wp2_with fail
            refine (hpr.out _ (hP.out.below hWw.out)).mono ?_
            rintro e w2 ⟨ad, cp2, rfl, hrd, hfa, hb2⟩
            have hW2 := Lib.hid (hWw.out.trans (hb2.mono hWw.out.size))
            have hV2 := Lib.hid (hW.out.trans (hb2.mono hsz))
            have hO2 := hO.out.below hb2
            have hap := Lib.hid (RdAp.of_far (row := (Value.slice ao k cp).ownBlock) hrd hfa (fun g hg => (hO.out.own.lt g hg).2))
            have hs2 := hb2.size
            have hbase := Lib.hid (show w1.heap.size ≤ w2.heap.size from hV2.out.size)
            replace hb2 := Lib.hid hb2
            clear hrd hfa
            have hal1 := (Below.refl w2.heap.size w2).alloc (Nat.le_refl _) (.cells #[.int .i64 xk, .string (S xp), .string (S xt), .int .i64 xf, .int .i64 xn, .slice ad xl.length cp2] 44)
            have hal2 := Lib.hid (hal1.alloc (by rw [World.size_alloc]; omega) (.cells #[.int .i64 xk, .string (S xp), .string (S xt), .int .i64 xf, .int .i64 xn, .slice ad xl.length cp2] 44))
            have hown2 := (hO2.below hal2.out).own
            have hlk := hdl'.out
            rw [hlk] at hown2
            replace hlk := Lib.hid hlk
            replace hO2 := Lib.hid hO2
            clear hal1
            have hnb := heap_alloc_new (w2.alloc (.cells #[.int .i64 xk, .string (S xp), .string (S xt), .int .i64 xf, .int .i64 xn, .slice ad xl.length cp2] 44)) (.cells #[.int .i64 xk, .string (S xp), .string (S xt), .int .i64 xf, .int .i64 xn, .slice ad xl.length cp2] 44)
            rw [World.size_alloc] at hnb
            replace hnb := Lib.hid hnb
            go_wp2_with (at_builtin; refine wpList_append_lies _ rfl _ _ 42 rfl w1.heap.size 44 i0 (.agg #[.int .i64 0, .string ⟨#[]⟩, .string ⟨#[]⟩, .int .i64 0, .int .i64 0, .slice none 0 0]) 6 80 Tryd.underlying42 hi0 hz0 hz1 hz2 rfl (by decide) (.slice ao k cp) k (cellsO ds) rfl hown2 ⟨w2.heap.size + 1, 0, none⟩ 1 1 [.int .i64 xk, .string (S xp), .string (S xt), .int .i64 xf, .int .i64 xn, .slice ad xl.length cp2] rfl rfl (World.news_of_block hnb.out) (by simp [Value.oneCell']) (by omega) (by unfold maxLen; omega) (by omega) (by rw [World.size_alloc, World.size_alloc]; have := hbase.out; omega) _ rfl ?_; intro vg vc w3 hown3 hgrow hat3 _)
            have hP3 := Lib.hid (OwnO.push (p := (⟨xk, xp, xt, xf, xn, xl⟩, .slice ad xl.length cp2)) (hO2.out.below hal2.out) (RdAp.below hap.out hal2.out) (by rw [hdl'.out]; exact hown3) hgrow hat3)
            have hW3 := Lib.hid ((hV2.out.trans (hal2.out.mono hV2.out.size)).grown hgrow (by rw [World.size_alloc, World.size_alloc]; have := hbase.out; omega) (fun g hg => (hown2.lt g hg).1))
            go_roundw
            case rel => exact ⟨k + 1, ds ++ [(⟨xk, xp, xt, xf, xn, xl⟩, .slice ad xl.length cp2)], some ⟨vg, 0, none⟩, vc, by omega, by go_num, rfl, by rw [List.length_append, hdl'.out]; rfl, hP3.out, hW3.out, by rw [List.map_append]; exact hT2.out⟩
            case measure => simp [intOf]; omega
    · have hk' : k = ls.length := by omega
      have hfin := Lib.hid (show R = (ds.map Prod.fst, (ls.length : Int), 0) by
        rw [← hT, hk', List.drop_length, Tr.scrR]
        simp [hdl, hk'])
      have hWw := Lib.hid (hb1.out.trans (hW.mono hz1'))
      replace hT := Lib.hid hT
      replace hdl := Lib.hid hdl
      replace hk' := Lib.hid hk'
      go_wp2_with fail
      go_ret3
      exact scrRes_mk hfin.out rfl hO.rd hWw.out
end Go.Proofs.YtpoongljokbgcaaDoor
/- slices.EqualFunc over two lists of calls, with the reference's Exact. -/
namespace Go.Proofs.YtpoongljokbgcaaDoor
open Go.RowKit
def Tr.eqBs (a b : List Opr) : Bool := a.length == b.length && (a.zip b).all fun p => Tr.eqB p.1 p.2
theorem Tr.eqB_refl (o : Opr) : Tr.eqB o o = true := by unfold Tr.eqB; simp
set_option maxRecDepth 100000 in
set_option maxHeartbeats 4000000 in
theorem equalFunc_true (xs : List Opr) (v u : Value) (w : World) (hv : RdO w v xs) (hu : RdO w u xs) (hn : xs.length ≤ 1000000000000) :
    Calls Tryd.prog 36 #[v, u, .func (.func 23) #[] #[]] w fun e w' => e = .returned (.bool true) ∧ Below w.heap.size w w' := by
  have hat : xs ≠ [] → _ := hv.at
  have hau : xs ≠ [] → _ := hu.at
  obtain ⟨a, cap, rfl⟩ := hv.len
  obtain ⟨a2, cap2, rfl⟩ := hu.len
  replace hat := Lib.hid hat
  replace hau := Lib.hid hau
  clear hv hu
  go_enter Tryd.func36, Tryd.ntmps36
  go_wp2_with fail
  go_loopw [17] (fun i wr => ∃ k : Nat, k ≤ xs.length ∧ i = .int .i64 k ∧ Below w.heap.size w wr) (fun i _ => xs.length - (intOf i).toNat)
  case atStart => exact ⟨0, Nat.zero_le _, rfl, Below.refl _ _⟩
  case round =>
    obtain ⟨k, hk, rfl, hW⟩ := hrel
    have hsz := hW.size
    by_cases hlt : k < xs.length
    · have hne : xs ≠ [] := by intro h; rw [h] at hlt; simp at hlt
      obtain ⟨bk, o, cap', hv, hcap, hbk, hcell⟩ := hat.out hne
      cases hv
      obtain ⟨bk2, o2, cap2', hv, hcap2, hbk2, hcell2⟩ := hau.out hne
      cases hv
      obtain ⟨ad, cp, d0, d1, d2, d3, d4, d5, hd⟩ := hcell k hlt
      obtain ⟨ad2, cp2, f0, f1, f2, f3, f4, f5, hf⟩ := hcell2 k hlt
      rw [← hW.cell (p := ⟨bk, o + k * 6, none⟩) hbk] at d0
      rw [← hW.cell (p := ⟨bk, o + k * 6 + 1, none⟩) hbk] at d1
      rw [← hW.cell (p := ⟨bk, o + k * 6 + 2, none⟩) hbk] at d2
      rw [← hW.cell (p := ⟨bk, o + k * 6 + 3, none⟩) hbk] at d3
      rw [← hW.cell (p := ⟨bk, o + k * 6 + 4, none⟩) hbk] at d4
      rw [← hW.cell (p := ⟨bk, o + k * 6 + 5, none⟩) hbk] at d5
      rw [← hW.cell (p := ⟨bk2, o2 + k * 6, none⟩) hbk2] at f0
      rw [← hW.cell (p := ⟨bk2, o2 + k * 6 + 1, none⟩) hbk2] at f1
      rw [← hW.cell (p := ⟨bk2, o2 + k * 6 + 2, none⟩) hbk2] at f2
      rw [← hW.cell (p := ⟨bk2, o2 + k * 6 + 3, none⟩) hbk2] at f3
      rw [← hW.cell (p := ⟨bk2, o2 + k * 6 + 4, none⟩) hbk2] at f4
      rw [← hW.cell (p := ⟨bk2, o2 + k * 6 + 5, none⟩) hbk2] at f5
      obtain ⟨x, hx⟩ : ∃ x, xs[k] = x := ⟨_, rfl⟩
      rw [hx] at d0 d1 d2 d3 d4 d5 hd f0 f1 f2 f3 f4 f5 hf
      replace hx := Lib.hid hx
      have hex := fun W hr hu => exact_any x x (.slice ad x.data.length cp) (.slice ad2 x.data.length cp2) W hr hu
      rw [Tr.eqB_refl] at hex
      replace hd := Lib.hid (hd.below hW)
      replace hf := Lib.hid (hf.below hW)
      replace hcell := Lib.hid hcell
      replace hcell2 := Lib.hid hcell2
      clear hne hat hau hcell hcell2
      obtain ⟨xk, xp, xt, xf, xn, xl⟩ := x
      unfold opV at hex
      dsimp only at d0 d1 d2 d3 d4 d5 f0 f1 f2 f3 f4 f5 hex
      replace hex := Lib.hid hex
      have k1 : Below wr.heap.size wr (wr.alloc (.cells #[.int .i64 xk, .string (S xp), .string (S xt), .int .i64 xf, .int .i64 xn, .slice ad xl.length cp] 44)) := (Below.refl _ _).alloc (Nat.le_refl _) _
      have hl2 := Nat.lt_of_lt_of_le hbk2 hsz
      have g0 := (World.cell?_alloc_lt wr (.cells #[.int .i64 xk, .string (S xp), .string (S xt), .int .i64 xf, .int .i64 xn, .slice ad xl.length cp] 44) ⟨bk2, o2 + k * 6, none⟩ hl2).trans f0
      have g1 := (World.cell?_alloc_lt wr (.cells #[.int .i64 xk, .string (S xp), .string (S xt), .int .i64 xf, .int .i64 xn, .slice ad xl.length cp] 44) ⟨bk2, o2 + k * 6 + 1, none⟩ hl2).trans f1
      have g2 := (World.cell?_alloc_lt wr (.cells #[.int .i64 xk, .string (S xp), .string (S xt), .int .i64 xf, .int .i64 xn, .slice ad xl.length cp] 44) ⟨bk2, o2 + k * 6 + 2, none⟩ hl2).trans f2
      have g3 := (World.cell?_alloc_lt wr (.cells #[.int .i64 xk, .string (S xp), .string (S xt), .int .i64 xf, .int .i64 xn, .slice ad xl.length cp] 44) ⟨bk2, o2 + k * 6 + 3, none⟩ hl2).trans f3
      have g4 := (World.cell?_alloc_lt wr (.cells #[.int .i64 xk, .string (S xp), .string (S xt), .int .i64 xf, .int .i64 xn, .slice ad xl.length cp] 44) ⟨bk2, o2 + k * 6 + 4, none⟩ hl2).trans f4
      have g5 := (World.cell?_alloc_lt wr (.cells #[.int .i64 xk, .string (S xp), .string (S xt), .int .i64 xf, .int .i64 xn, .slice ad xl.length cp] 44) ⟨bk2, o2 + k * 6 + 5, none⟩ hl2).trans f5
      have k2 := k1.alloc (by rw [World.size_alloc]; omega) (.cells #[.int .i64 xk, .string (S xp), .string (S xt), .int .i64 xf, .int .i64 xn, .slice ad2 xl.length cp2] 44)
      have hW2 := Lib.hid (hW.trans (k2.mono hsz))
      replace hW := Lib.hid hW
      replace k2 := Lib.hid k2
      clear k1
      clear f0 f1 f2 f3 f4 f5
      go_wp2_with fail
      refine (hex.out _ (hd.out.below k2.out) (hf.out.below k2.out)).mono ?_
      rintro e w1 ⟨rfl, hb1⟩
      have hW3 := Lib.hid (hW2.out.trans (hb1.mono hW2.out.size))
      replace hb1 := Lib.hid hb1
      go_wp2_with fail
      go_roundw
      case rel => exact ⟨k + 1, by omega, by go_num, hW3.out⟩
      case measure => simp [intOf]; omega
    · go_wp2_with fail
      go_ret
      exact ⟨rfl, hW⟩
end Go.Proofs.YtpoongljokbgcaaDoor
/- The reference's text of calls (slipwayref27.Text). -/
namespace Go.Proofs.YtpoongljokbgcaaDoor
open Go.RowKit
set_option maxRecDepth 100000 in
set_option maxHeartbeats 4000000 in
theorem textr_any (xs : List Opr) (v : Value) (w : World) (hP : Pw w) (ho : ∀ o ∈ xs, o.small) (hr : RdO w v xs) (hn : xs.length ≤ 100000) :
    Calls Tryd.prog 31 #[v] w (TextRes (Tr.text xs) w) := by
  obtain ⟨i0, hi0, hz0, hz1, hz2⟩ := info_parts infoByte
  have hat : xs ≠ [] → _ := hr.at
  obtain ⟨a, cap, rfl⟩ := hr.len
  replace hat := Lib.hid hat
  replace hr := Lib.hid hr
  replace ho := Lib.hid ho
  replace hP := Lib.hid hP
  go_enter Tryd.func31, Tryd.ntmps31
  go_wp2_with fail
  go_loopw [5, 6] (fun v i wr => ∃ (k : Nat) (b : List UInt8) (ao : Option Addr) (cp : Nat), k ≤ xs.length ∧ i = .int .i64 k ∧ v = .slice ao b.length cp ∧ wr.ownsRow w.heap.size 5 1 (.slice ao b.length cp) b.length (Lib.byteCells b) ∧ Below w.heap.size w wr ∧ b.length ≤ 60000000 ∧ Tr.text xs = Tr.textF k b (xs.drop k))
    (fun _ i _ => xs.length - (intOf i).toNat)
  case atStart => exact ⟨0, [], none, 0, Nat.zero_le _, rfl, rfl, World.ownsRow_nil _ _ _ _, Below.refl _ _, by simp, rfl⟩
  case round =>
    obtain ⟨k, b, ao, cp0, hk, rfl, rfl, hB, hW, hbl, hT⟩ := hrel
    have hsz := hW.size
    by_cases hlt : k < xs.length
    · have hne : xs ≠ [] := by intro h; rw [h] at hlt; simp at hlt
      obtain ⟨bk, o, cap', hv, hcap, hbk, hcell⟩ := hat.out hne
      cases hv
      obtain ⟨ad, cp, d0, d1, d2, d3, d4, d5, hd⟩ := hcell k hlt
      have hos := Lib.hid (ho.out xs[k] (List.getElem_mem hlt))
      have hdr := Lib.hid (show xs.drop k = xs[k] :: xs.drop (k + 1) from List.drop_eq_getElem_cons hlt)
      obtain ⟨x, hx⟩ : ∃ x, xs[k] = x := ⟨_, rfl⟩
      rw [hx] at d0 d1 d2 d3 d4 d5 hd hos hdr
      replace hx := Lib.hid hx
      have hpl := print_small x hos.out
      have hpr := fun W hP hr => printr_any x (.slice ad x.data.length cp) W hP hos.out.ok hos.out.path hos.out.dest hr
      rw [← hW.cell (p := ⟨bk, o + k * 6, none⟩) hbk] at d0
      rw [← hW.cell (p := ⟨bk, o + k * 6 + 1, none⟩) hbk] at d1
      rw [← hW.cell (p := ⟨bk, o + k * 6 + 2, none⟩) hbk] at d2
      rw [← hW.cell (p := ⟨bk, o + k * 6 + 3, none⟩) hbk] at d3
      rw [← hW.cell (p := ⟨bk, o + k * 6 + 4, none⟩) hbk] at d4
      rw [← hW.cell (p := ⟨bk, o + k * 6 + 5, none⟩) hbk] at d5
      replace hd := Lib.hid (hd.below hW)
      obtain ⟨⟨line, er⟩, hp⟩ : ∃ p, Tr.print x = p := ⟨_, rfl⟩
      rw [hp] at hpl hpr
      dsimp only at hpl
      replace hpr := Lib.hid hpr
      replace hp := Lib.hid hp
      replace hcell := Lib.hid hcell
      clear hne hat hcell
      obtain ⟨xk, xp, xt, xf, xn, xl⟩ := x
      dsimp only at d0 d1 d2 d3 d4 d5
      replace hB := Lib.hid hB
      replace hT := Lib.hid hT
      replace hdr := Lib.hid hdr
      replace hW := Lib.hid hW
      go_wp2_with fail
      refine (hpr.out _ (hP.out.below hW.out) hd.out).mono ?_
      rintro e w1 ⟨rfl, hb1⟩
      have hW1 := Lib.hid (hW.out.trans (hb1.mono hW.out.size))
      have hB1 := Lib.hid (own_below hB.out hb1)
      have hs1 := hb1.size
      replace hb1 := Lib.hid hb1
      by_cases he : er = 0
      · subst he
        have hT1 := Lib.hid (show Tr.text xs = Tr.textF (k + 1) (Tr.addT b ⟨xk, xp, xt, xf, xn, xl⟩) (xs.drop (k + 1)) by
          rw [hT.out, hdr.out, Tr.textF, if_neg (by rw [hp.out]; simp)])
        by_cases hle : b.length ≤ 65536
        · have hle' : ((b.length : Nat) : Int) ≤ 65536 := by omega
          have hadd := Lib.hid (show Tr.addT b ⟨xk, xp, xt, xf, xn, xl⟩ = b ++ (line ++ [10]) by unfold Tr.addT; rw [if_pos hle, hp.out])
          have hlt1 := Lib.hid (show (b ++ (line ++ [10])).length ≤ 60000000 by simp only [List.length_append, List.length_cons, List.length_nil]; omega)
          go_wp2_with (first
            | (at_builtin; refine Lib.wpList_append_own_string _ rfl (.tmp 30) (.tmp 31) 28 9 rfl w.heap.size 5 i0 Tryd.underlying28 Tryd.underlying9 hi0 hz0 hz1 hz2 _ _ _ rfl hB1.out (S line) rfl (by rw [S_size]; unfold maxLen; omega) (by rw [S_size]; omega) (by omega) ?_; intro v2 w2 hown2 hg2 _; (obtain ⟨ao2, cp2, rfl⟩ := slice_form hown2); (have hW2 := Lib.hid (hW1.out.grown hg2 (by omega) (fun k hk => (hB1.out.lt k hk).1))); (have hs2 := hg2.size))
            | (at_builtin; refine wpList_append_lies _ rfl _ _ 28 rfl w.heap.size 5 i0 (.int .u8 0) 1 1 Tryd.underlying28 hi0 hz0 hz1 hz2 rfl (by decide) _ _ _ rfl (hown2.alloc _) ⟨w2.heap.size, 0, none⟩ 1 1 [.int .u8 10] rfl rfl (World.news_of_block (heap_alloc_new w2 (.cells #[.int .u8 10] 5))) (by simp [Value.oneCell']) (by omega) (by rw [S_size]; unfold maxLen; omega) (by rw [S_size]; omega) (by rw [World.size_alloc]; omega) _ rfl ?_; intro vg vc w3 hown3 hgrow _ _))
          have hl3 := Lib.hid (show (b ++ (line ++ [10])).length = b.length + line.length + 1 by simp only [List.length_append, List.length_cons, List.length_nil]; omega)
          have hcl := Lib.hid (show Lib.byteCells (b ++ (line ++ [10])) = Lib.byteCells b ++ Lib.strCells (S line) ++ [Value.int IntKind.u8 10] by simp [Lib.byteCells, Lib.strCells, S])
          have hW3 := Lib.hid ((hW2.out.alloc (by omega) (.cells #[.int .u8 10] 5)).grown hgrow (by rw [World.size_alloc]; omega) (fun k hk => (hown2.lt k hk).1))
          go_roundw
          case rel => exact ⟨k + 1, b ++ (line ++ [10]), some ⟨vg, 0, none⟩, vc, by omega, by go_num, by rw [hl3.out], by rw [hl3.out, hcl.out]; simpa using hown3, hW3.out, hlt1.out, by rw [hT1.out, hadd.out]⟩
          case measure => simp [intOf]; omega
        · have hle' : ¬ ((b.length : Nat) : Int) ≤ 65536 := by omega
          have hadd := Lib.hid (show Tr.addT b ⟨xk, xp, xt, xf, xn, xl⟩ = b by unfold Tr.addT; rw [if_neg hle])
          go_wp2_with fail
          go_roundw
          case rel => exact ⟨k + 1, b, ao, cp0, by omega, by go_num, rfl, hB1.out, hW1.out, by omega, by rw [hT1.out, hadd.out]⟩
          case measure => simp [intOf]; omega
      · have hT1 := Lib.hid (show Tr.text xs = ([], (k : Int), er) by
          rw [hT.out, hdr.out, Tr.textF, if_pos (by rw [hp.out]; exact he), hp.out])
        have he1 : (er == 0) = false := by simpa using he
        have he2 : (er != 0) = true := by simpa using he
        replace he := Lib.hid he
        go_wp2_with fail
        refine bodyPost_ret (results_tmp3 rfl _ _ _) rfl ?_
        exact textRes_mk hT1.out rfl hW1.out
    · have hk' : k = xs.length := by omega
      subst hk'
      have hT1 : Tr.text xs = Tr.textF xs.length b [] := by rw [hT, List.drop_length]
      rw [Tr.textF] at hT1
      replace hT := Lib.hid hT
      by_cases hle : 65536 < b.length
      · rw [if_pos hle] at hT1
        have hle' : (65536 : Int) < ((b.length : Nat) : Int) := by omega
        replace hT1 := Lib.hid hT1
        go_wp2_with fail
        go_ret3
        exact textRes_mk hT1.out rfl hW
      · rw [if_neg hle] at hT1
        have hle' : ¬ (65536 : Int) < ((b.length : Nat) : Int) := by omega
        replace hT1 := Lib.hid hT1
        have hcv := convert_rd (P := Tryd.prog) Tryd.underlying28 Tryd.underlying5 Tryd.underlying9 (Rd.of_own (enc := byteV) (xs := b) hB)
        go_wp2_with fail
        go_ret3
        exact textRes_mk hT1.out rfl hW
end Go.Proofs.YtpoongljokbgcaaDoor
/- slipwaylaw27.TraceScripts returns true. -/
namespace Go.Proofs.YtpoongljokbgcaaDoor
open Go.RowKit
/-- slices.Equal over two slices that read as one list of texts. -/
theorem equalS_true (xs : List (List UInt8)) (v u : Value) (w : World) (hv : RdS w v xs) (hu : RdS w u xs) (hn : xs.length ≤ 9223372036854775807) :
    Calls Tryd.prog 34 #[v, u] w fun e w' => e = .returned (.bool true) ∧ Below w.heap.size w w' := by
  obtain ⟨a, cap, rfl, hc, h3⟩ := hv
  obtain ⟨a2, cap2, rfl, hc2, h4⟩ := hu
  cases xs with
  | nil =>
    refine (Tryd.slices_Equal_string_empty a a2 cap 0 cap2 w (by omega)).mono ?_
    rintro e w' ⟨rfl, rfl⟩
    exact ⟨rfl, Below.refl _ _⟩
  | cons x xs =>
    obtain ⟨b, o, rfl, _⟩ := h3 0 x rfl
    obtain ⟨b2, o2, rfl, _⟩ := h4 0 x rfl
    have hcell : ∀ (b o : Nat) (cells : ∀ (j : Nat) (y : List UInt8), (x :: xs)[j]? = some y → ∃ b' o', some (⟨b, o, none⟩ : Addr) = some ⟨b', o', none⟩ ∧ b' < w.heap.size ∧ w.cell? ⟨b', o' + j, none⟩ = some (strV y)),
        ∀ j, j < ((x :: xs).map S).length → w.cell? ⟨b, o + j, none⟩ = some (.string (((x :: xs).map S).getD j ByteArray.empty)) := by
      intro b o cells j hj
      rw [List.length_map] at hj
      obtain ⟨b', o', e, _, hh⟩ := cells j _ (List.getElem?_eq_getElem hj)
      cases e
      rw [hh, List.getD_eq_getElem?_getD, List.getElem?_map, List.getElem?_eq_getElem hj]
      rfl
    refine (Tryd.slices_Equal_string b o (x :: xs).length cap b2 o2 (x :: xs).length cap2 ((x :: xs).map S) ((x :: xs).map S) w (by rw [List.length_map]; exact Nat.le_refl _) (by rw [List.length_map]; exact Nat.le_refl _) hn hn (hcell b o h3) (hcell b2 o2 h4)).mono ?_
    rintro e w' ⟨rfl, q, rfl⟩
    exact ⟨by simp, below_drewN _ _⟩
namespace Tr
theorem scrF_len (t : List UInt8) (ls : List (List UInt8)) : ∀ acc : List Opr, (scrF t acc ls).1.length ≤ acc.length + ls.length := by
  induction ls with
  | nil => intro acc; unfold scrF; split <;> simp
  | cons x r ih =>
    intro acc
    unfold scrF
    split
    · simp
    · have := ih (acc ++ [‹Opr›]); simp only [List.length_append, List.length_cons, List.length_nil] at *; omega
theorem script_len (t : List UInt8) : (script t).1.length ≤ t.length := by
  unfold script
  split
  · simp
  · have := scrF_len t (lns t) []
    have := lns_len t.length t (Nat.le_refl _)
    simp only [List.length_nil] at *
    omega
end Tr
set_option maxRecDepth 100000 in
set_option maxHeartbeats 8000000 in
theorem scripts_main (l : List Opr) (t : List UInt8) (v : Value) (w : World) (hG : Gl w) (hP : Pw w) (ho : ∀ o ∈ l, o.small) (hr : RdO w v l) (hn : l.length ≤ 60) (ht : t.length ≤ 65536) :
    Calls Tryd.prog 8 #[v, .string (S t)] w fun e w' => e = .returned (.bool true) ∧ Below w.heap.size w w' := by
  obtain ⟨a, cap, rfl⟩ := hr.len
  have t1 : ¬ ((l.length : Int) > 60) := by omega
  have t2 : ¬ ((t.length : Int) > 65536) := by omega
  have h20 := fun W hG hr => text_any l (.slice a l.length cap) W hG ho hr (by omega)
  have h31 := fun W hP hr => textr_any l (.slice a l.length cap) W hP ho hr (by omega)
  obtain ⟨⟨ra, rn, rm⟩, hR⟩ : ∃ R, Tr.text l = R := ⟨_, rfl⟩
  rw [hR] at h20 h31
  replace h20 := Lib.hid h20
  replace h31 := Lib.hid h31
  have h21 := fun W hG => script_any t W hG ht
  have h32 := fun W hP => scriptr_any t W hP (by omega)
  have hsl := Tr.script_len t
  obtain ⟨⟨sx, sn, sm⟩, hS⟩ : ∃ R, Tr.script t = R := ⟨_, rfl⟩
  rw [hS] at h21 h32 hsl
  dsimp only at hsl
  replace h21 := Lib.hid h21
  replace h32 := Lib.hid h32
  have hll := Tr.lns_len t.length t (Nat.le_refl _)
  have h33 := fun W hG => lines_any t W hG ht
  have h35 := fun W => linesr_any t W (by omega)
  obtain ⟨ls, hls⟩ : ∃ ls, Tr.lns t = ls := ⟨_, rfl⟩
  rw [hls] at h33 h35 hll
  replace h33 := Lib.hid h33
  replace h35 := Lib.hid h35
  have hLive := Lib.hid (fun W hG => live_any W hG)
  clear hR hS hls ho
  have hll' : ls.length ≤ 9223372036854775807 := by omega
  have hsl' : sx.length ≤ 1000000000000 := by omega
  replace hll' := Lib.hid hll'
  replace hsl' := Lib.hid hsl'
  clear hsl hll
  replace hG := Lib.hid hG
  replace hP := Lib.hid hP
  replace hr := Lib.hid hr
  go_enter Tryd.func8, Tryd.ntmps8
  go_wp2_with fail
  refine (hLive.out _ hG.out).mono ?_
  rintro e w1 ⟨rfl, hb1⟩
  have B1 := Lib.hid hb1
  clear hb1
  go_wp2_with fail
  refine (h20.out _ (hG.out.below B1.out) (hr.out.below B1.out)).mono ?_
  rintro e w2 ⟨rfl, hb2⟩
  have B2 := Lib.hid (B1.out.trans (hb2.mono B1.out.size))
  clear hb2
  go_wp2_with fail
  refine (h31.out _ (hP.out.below B2.out) (hr.out.below B2.out)).mono ?_
  rintro e w3 ⟨rfl, hb3⟩
  have B3 := Lib.hid (B2.out.trans (hb3.mono B2.out.size))
  clear hb3
  go_wp2_with fail
  refine (h21.out _ (hG.out.below B3.out)).mono ?_
  rintro e w4 ⟨v4, rfl, r4, hb4⟩
  have B4 := Lib.hid (B3.out.trans (hb4.mono B3.out.size))
  replace r4 := Lib.hid r4
  clear hb4
  dsimp only
  go_wp2_with fail
  refine (h32.out _ (hP.out.below B4.out)).mono ?_
  rintro e w5 ⟨v5, rfl, r5, hb5⟩
  have B5 := Lib.hid (B4.out.trans (hb5.mono B4.out.size))
  replace r4 := Lib.hid (r4.out.below hb5)
  replace r5 := Lib.hid r5
  clear hb5
  dsimp only
  go_wp2_with fail
  refine (h33.out _ (hG.out.below B5.out)).mono ?_
  rintro e w6 ⟨v6, rfl, o6, hb6⟩
  have B6 := Lib.hid (B5.out.trans (hb6.mono B5.out.size))
  replace r4 := Lib.hid (r4.out.below hb6)
  replace r5 := Lib.hid (r5.out.below hb6)
  have r6 := Lib.hid (Rd.of_own (enc := strV) o6)
  clear hb6 o6
  go_wp2_with fail
  refine (h35.out _).mono ?_
  rintro e w7 ⟨v7, rfl, o7, hb7⟩
  have B7 := Lib.hid (B6.out.trans (hb7.mono B6.out.size))
  replace r4 := Lib.hid (r4.out.below hb7)
  replace r5 := Lib.hid (r5.out.below hb7)
  replace r6 := Lib.hid (r6.out.below hb7)
  have r7 := Lib.hid (Rd.of_own (enc := strV) o7)
  clear hb7 o7
  go_wp2_with fail
  refine (equalS_true ls v6 v7 _ r6.out r7.out hll'.out).mono ?_
  rintro e w8 ⟨rfl, hb8⟩
  have B8 := Lib.hid (B7.out.trans (hb8.mono B7.out.size))
  replace r4 := Lib.hid (r4.out.below hb8)
  replace r5 := Lib.hid (r5.out.below hb8)
  clear hb8
  go_wp2_with fail
  refine (equalFunc_true sx v4 v5 _ r4.out r5.out hsl'.out).mono ?_
  rintro e w9 ⟨rfl, hb9⟩
  have B9 := Lib.hid (B8.out.trans (hb9.mono B8.out.size))
  clear hb9
  go_wp2_with fail
  go_ret
  exact ⟨by simp, B9.out⟩
set_option maxRecDepth 100000 in
set_option maxHeartbeats 4000000 in
theorem scripts_over (a : Option Addr) (n cap : Nat) (t : List UInt8) (w : World) (hG : Gl w) (h : 60 < n ∨ (n ≤ 60 ∧ 65536 < t.length)) :
    Calls Tryd.prog 8 #[.slice a n cap, .string (S t)] w fun e w' => e = .returned (.bool true) ∧ Below w.heap.size w w' := by
  have hLive := Lib.hid (live_any w hG)
  rcases h with h | ⟨h, h2⟩
  · have t1 : ((n : Int) > 60) := by omega
    go_enter Tryd.func8, Tryd.ntmps8
    go_wp2_with fail
    refine hLive.out.mono ?_
    rintro e w1 ⟨rfl, hb1⟩
    go_wp2_with fail
    go_ret
    exact ⟨rfl, hb1⟩
  · have t1 : ¬ ((n : Int) > 60) := by omega
    have t2 : ((t.length : Int) > 65536) := by omega
    go_enter Tryd.func8, Tryd.ntmps8
    go_wp2_with fail
    refine hLive.out.mono ?_
    rintro e w1 ⟨rfl, hb1⟩
    go_wp2_with fail
    go_ret
    exact ⟨rfl, hb1⟩
end Go.Proofs.YtpoongljokbgcaaDoor
