/- The walk of the reference's Split. -/
import Derived.Test.YtopfkbpjfcdjnaaDoorN
import Derived.Deep.AppendLies
namespace Go.Proofs.YtopfkbpjfcdjnaaDoor
open Go.RowKit
namespace Tr
theorem spl_one (c : UInt8) (a : List UInt8) (h : c ∉ a) : spl c a = [a] := by
  induction a with
  | nil => rfl
  | cons b a ih =>
    simp only [List.mem_cons, not_or] at h
    rw [spl, if_neg (fun e => h.1 e.symm), ih h.2]
theorem spl_cons (c : UInt8) (a b : List UInt8) (h : c ∉ a) : spl c (a ++ c :: b) = a :: spl c b := by
  induction a with
  | nil => rw [List.nil_append, spl, if_pos rfl]
  | cons d a ih =>
    simp only [List.mem_cons, not_or] at h
    rw [List.cons_append, spl, if_neg (fun e => h.1 e.symm), ih h.2]
end Tr
/-- What stands at the head of the loop: the names so far, the name that is under way. -/
def WInv (s : List UInt8) (i f : Nat) (out : List (List UInt8)) : Prop :=
  out.length ≤ i ∧ ((i ≤ s.length ∧ f ≤ i ∧ (47 : UInt8) ∉ (s.take i).drop f ∧ Tr.spl 47 s = out ++ Tr.spl 47 ((s.take i).drop f ++ s.drop i)) ∨ (i = s.length + 1 ∧ Tr.spl 47 s = out))
theorem WInv.zero (s : List UInt8) : WInv s 0 0 [] := ⟨Nat.le_refl _, .inl ⟨Nat.zero_le _, Nat.le_refl _, by simp, by simp⟩⟩
theorem WInv.le {s : List UInt8} {i f : Nat} {out : List (List UInt8)} (h : WInv s i f out) (hi : i ≤ s.length) : f ≤ i := by
  rcases h.2 with h | h
  · exact h.2.1
  · omega
theorem WInv.other {s : List UInt8} {i f : Nat} {out : List (List UInt8)} (h : WInv s i f out) (hi : i < s.length) (hc : s[i] ≠ 47) : WInv s (i + 1) f out := by
  rcases h.2 with ⟨h1, h2, h3, h4⟩ | h
  · have ht : (s.take (i + 1)).drop f = (s.take i).drop f ++ [s[i]] := by
      rw [List.take_succ_eq_append_getElem hi, List.drop_append_of_le_length (by simp; omega)]
    refine ⟨by have := h.1; omega, .inl ⟨by omega, by omega, ?_, ?_⟩⟩
    · rw [ht]; simp only [List.mem_append, List.mem_cons, List.not_mem_nil, or_false, not_or]
      exact ⟨h3, fun e => hc e.symm⟩
    · rw [ht, h4, List.drop_eq_getElem_cons hi]; simp
  · omega
theorem WInv.blank {s : List UInt8} {i f : Nat} {out : List (List UInt8)} (h : WInv s i f out) (hi : i < s.length) (hc : s[i] = 47) : WInv s (i + 1) (i + 1) (out ++ [(s.take i).drop f]) := by
  rcases h.2 with ⟨h1, h2, h3, h4⟩ | h
  · have ht : (s.take (i + 1)).drop (i + 1) = [] := by rw [List.drop_eq_nil_iff]; simp; omega
    refine ⟨by have := h.1; simp; omega, .inl ⟨by omega, by omega, by rw [ht]; simp, ?_⟩⟩
    rw [ht, h4, List.drop_eq_getElem_cons hi, hc, Tr.spl_cons 47 _ _ h3]; simp
  · omega
theorem WInv.last {s : List UInt8} {f : Nat} {out : List (List UInt8)} (h : WInv s s.length f out) : WInv s (s.length + 1) (s.length + 1) (out ++ [(s.take s.length).drop f]) := by
  rcases h.2 with ⟨h1, h2, h3, h4⟩ | h
  · refine ⟨by have := h.1; simp; omega, .inr ⟨rfl, ?_⟩⟩
    rw [h4, List.drop_length, List.append_nil, Tr.spl_one 47 _ h3]
  · omega
theorem WInv.end {s : List UInt8} {f : Nat} {out : List (List UInt8)} (h : WInv s (s.length + 1) f out) : Tr.spl 47 s = out := by
  rcases h.2 with h | h
  · omega
  · exact h.2
theorem WInv.has {s : List UInt8} {i f : Nat} {out : List (List UInt8)} (h : WInv s i f out) : ∃ more, Tr.spl 47 s = out ++ more := by
  rcases h.2 with ⟨_, _, _, h⟩ | ⟨_, h⟩
  · exact ⟨_, h⟩
  · exact ⟨[], by rw [h, List.append_nil]⟩
theorem infoStr : (Tryd.prog.info? 9).map (fun i => (i.zero, i.size, i.bytes)) = some (some (.string ⟨#[]⟩), 1, 16) := by kernel_rfl
namespace Nm
theorem firstBad_app (out : List (List UInt8)) (n : List UInt8) (r : List (List UInt8)) (h : ∀ x ∈ out, check x = 0) (hn : check n ≠ 0) : firstBad (out ++ n :: r) = check n := by
  induction out with
  | nil => rw [List.nil_append, firstBad_cons, if_neg hn]
  | cons x out ih =>
    rw [List.cons_append, firstBad_cons, if_pos (h x (by simp))]
    exact ih fun y hy => h y (by simp [hy])
end Nm
set_option maxRecDepth 100000 in
set_option maxHeartbeats 4000000 in
theorem splitr_loop (rest s : List UInt8) (w : World) (hs : s = 47 :: rest) (hr : rest ≠ []) (hl : s.length ≤ 512) : Calls Tryd.prog 25 #[.string (S s)] w (SplitRes (Nm.split s) w) := by
  have hsl : s.length = rest.length + 1 := by rw [hs]; rfl
  have hrl : 0 < rest.length := List.length_pos_iff.2 hr
  have hfin := Lib.hid (show Nm.split s = if Nm.firstBad (Tr.spl 47 rest) = 0 then (Tr.spl 47 rest, 0) else ([], Nm.firstBad (Tr.spl 47 rest)) by
    subst hs; unfold Nm.split; rw [if_neg (by omega)]; simp only [if_true, if_neg hr])
  have hspl := Lib.hid (show Tr.spl 47 s = [] :: Tr.spl 47 rest by subst hs; rw [Tr.spl]; simp)
  have h00 : 0 < s.length := by omega
  have hs0 : s[0] = 47 := by subst hs; rfl
  have hb00 : ((s[0].toNat : Int) == 47) = true := by rw [hs0]; rfl
  have hb01 : ((s[0].toNat : Int) != 47) = false := by rw [hs0]; rfl
  have hstart := Lib.hid (show WInv s 1 1 [[]] by
    have := (WInv.zero s).blank h00 hs0
    simpa using this)
  have n0 : (s == []) = false := by subst hs; rfl
  have n1 : (s == [47]) = false := by
    subst hs
    rw [beq_eq_false_iff_ne]; intro e; simp at e; exact hr e
  have t1 : ¬ ((s.length : Int) > 512) := by omega
  obtain ⟨i0, hi0, hz0, hz1, hz2⟩ := info_parts infoStr
  have hs2 : 2 ≤ s.length := by omega
  clear hsl hrl
  replace hs := Lib.hid hs
  replace hs0 := Lib.hid hs0
  clear hr
  go_enter Tryd.func25, Tryd.ntmps25
  go_wp2_with fail
  go_loopw [4, 5, 6] (fun o f k wr => ∃ (i j : Nat) (out : List (List UInt8)), 1 ≤ i ∧ i ≤ s.length + 1 ∧ k = .int .i64 i ∧ f = .int .i64 j ∧ WInv s i j ([] :: out) ∧ wr.ownsRow w.heap.size 9 1 o out.length (out.map strV) ∧ Below w.heap.size w wr ∧ ∀ x ∈ out, Nm.check x = 0)
    (fun _ _ k _ => s.length + 1 - (intOf k).toNat)
  case atStart => exact ⟨1, 1, [], by omega, by omega, rfl, rfl, hstart.out, World.ownsRow_nil _ _ _ _, Below.refl _ _, by simp⟩
  case round =>
    obtain ⟨i, j, out, hi1, hi, rfl, rfl, hinv, hown, hW, hgood⟩ := hrel
    replace hgood := Lib.hid hgood
    have hsz := hW.size
    have hol := hinv.1
    rw [List.length_cons] at hol
    by_cases hle : i ≤ s.length
    · have hji := hinv.le hle
      by_cases hlt : i < s.length
      · by_cases h47 : s[i] = 47
        · have hnx := hinv.blank hlt h47
          rw [List.cons_append] at hnx
          replace hinv := Lib.hid hinv
          have hb : ((s[i].toNat : Int) == 47) = true := by rw [h47]; rfl
          have hb' : ((s[i].toNat : Int) != 47) = false := by rw [h47]; rfl
          replace h47 := Lib.hid h47
          obtain ⟨n, hn⟩ : ∃ n, Nm.check ((s.take i).drop j) = n := ⟨_, rfl⟩
          have hchk := Lib.hid (fun W => checkr_any ((s.take i).drop j) W (by rw [List.length_drop, List.length_take]; omega))
          rw [hn] at hchk
          by_cases hn0 : n = 0
          · subst hn0
            have hg2 := Lib.hid (show ∀ x ∈ out ++ [(s.take i).drop j], Nm.check x = 0 by
              intro x hx
              rcases List.mem_append.1 hx with hx | hx
              · exact hgood.out x hx
              · rw [List.mem_singleton.1 hx]; exact hn)
            replace hnx := Lib.hid hnx
            replace hn := Lib.hid hn
            go_wp2_with (first | (go_at_call 30; refine (hchk.out _).mono ?_; rintro e w' ⟨rfl, hw⟩; obtain rfl := hw.symm) | (at_builtin; refine wpList_append_lies _ rfl _ _ 22 rfl w.heap.size 9 i0 (.string ⟨#[]⟩) 1 16 Tryd.underlying22 hi0 hz0 hz1 hz2 rfl (by decide) _ out.length (out.map strV) rfl (hown.alloc _) ⟨wr.heap.size, 0, none⟩ 1 1 [.string (S ((s.take i).drop j))] rfl rfl (World.news_of_block (heap_alloc_new wr (.cells #[.string (S ((s.take i).drop j))] 9))) (by simp [Value.oneCell']) (by omega) (by unfold maxLen; omega) (by omega) (by rw [World.size_alloc]; omega) _ rfl ?_; intro vg vc w1 hown1 hgrow _ _))
            go_roundw
            case rel => exact ⟨i + 1, i + 1, out ++ [(s.take i).drop j], by omega, by omega, by go_num, by go_num, hnx.out, by rw [List.length_append, List.map_append]; exact hown1, (hW.alloc hsz _).grown hgrow (by rw [World.size_alloc]; omega) (fun k hk => (hown.lt k hk).1), hg2.out⟩
            case measure => simp [intOf]; omega
          · have hn1 : (n == 0) = false := by simpa using hn0
            have hbad := Lib.hid (show Nm.split s = ([], n) by
              obtain ⟨more, hm⟩ := hnx.has
              rw [hspl.out] at hm
              have hm' : Tr.spl 47 rest = out ++ ((s.take i).drop j) :: more := by simpa using hm
              rw [hfin.out, hm', Nm.firstBad_app out _ more hgood.out (by rw [hn]; exact hn0), hn, if_neg hn0])
            replace hnx := Lib.hid hnx
            replace hn := Lib.hid hn
            go_wp2_with (go_at_call 30; refine (hchk.out _).mono ?_; rintro e w' ⟨rfl, hw⟩; obtain rfl := hw.symm)
            go_ret2
            exact splitRes_none hbad.out hW
        · have hnx := Lib.hid (hinv.other hlt h47)
          replace hinv := Lib.hid hinv
          have hb : ((s[i].toNat : Int) == 47) = false := beq_eq_false_iff_ne.2 (fun e => h47 (UInt8.toNat_inj.1 (by show s[i].toNat = 47; omega)))
          have hb' : ((s[i].toNat : Int) != 47) = true := by unfold bne; rw [hb]; rfl
          replace h47 := Lib.hid h47
          go_wp2_with fail
          go_roundw
          case rel => exact ⟨i + 1, j, out, by omega, by omega, by go_num, rfl, hnx.out, hown, hW, hgood.out⟩
          case measure => simp [intOf]; omega
      · obtain rfl : i = s.length := by omega
        have hnx := hinv.last
        replace hinv := Lib.hid hinv
        rw [List.take_length, List.cons_append] at hnx
        obtain ⟨n, hn⟩ : ∃ n, Nm.check (s.drop j) = n := ⟨_, rfl⟩
        have hchk := Lib.hid (fun W => checkr_any (s.drop j) W (by rw [List.length_drop]; omega))
        rw [hn] at hchk
        by_cases hn0 : n = 0
        · subst hn0
          have hg2 := Lib.hid (show ∀ x ∈ out ++ [s.drop j], Nm.check x = 0 by
            intro x hx
            rcases List.mem_append.1 hx with hx | hx
            · exact hgood.out x hx
            · rw [List.mem_singleton.1 hx]; exact hn)
          replace hnx := Lib.hid hnx
          replace hn := Lib.hid hn
          go_wp2_with (first | (go_at_call 30; refine (hchk.out _).mono ?_; rintro e w' ⟨rfl, hw⟩; obtain rfl := hw.symm) | (at_builtin; refine wpList_append_lies _ rfl _ _ 22 rfl w.heap.size 9 i0 (.string ⟨#[]⟩) 1 16 Tryd.underlying22 hi0 hz0 hz1 hz2 rfl (by decide) _ out.length (out.map strV) rfl (hown.alloc _) ⟨wr.heap.size, 0, none⟩ 1 1 [.string (S (s.drop j))] rfl rfl (World.news_of_block (heap_alloc_new wr (.cells #[.string (S (s.drop j))] 9))) (by simp [Value.oneCell']) (by omega) (by unfold maxLen; omega) (by omega) (by rw [World.size_alloc]; omega) _ rfl ?_; intro vg vc w1 hown1 hgrow _ _))
          go_roundw
          case rel => exact ⟨s.length + 1, s.length + 1, out ++ [s.drop j], by omega, by omega, by go_num, by go_num, hnx.out, by rw [List.length_append, List.map_append]; exact hown1, (hW.alloc hsz _).grown hgrow (by rw [World.size_alloc]; omega) (fun k hk => (hown.lt k hk).1), hg2.out⟩
          case measure => simp [intOf]
        · have hn1 : (n == 0) = false := by simpa using hn0
          have hbad := Lib.hid (show Nm.split s = ([], n) by
            obtain ⟨more, hm⟩ := hnx.has
            rw [hspl.out] at hm
            have hm' : Tr.spl 47 rest = out ++ (s.drop j) :: more := by simpa using hm
            rw [hfin.out, hm', Nm.firstBad_app out _ more hgood.out (by rw [hn]; exact hn0), hn, if_neg hn0])
          replace hnx := Lib.hid hnx
          replace hn := Lib.hid hn
          go_wp2_with (go_at_call 30; refine (hchk.out _).mono ?_; rintro e w' ⟨rfl, hw⟩; obtain rfl := hw.symm)
          go_ret2
          exact splitRes_none hbad.out hW
    · obtain rfl : i = s.length + 1 := by omega
      have hend := hinv.end
      rw [hspl.out] at hend
      have hend' : Tr.spl 47 rest = out := by simpa using hend
      have hok := Lib.hid (show Nm.split s = (out, 0) by
        rw [hfin.out, hend', if_pos ((Nm.firstBad_ok out).2 hgood.out)])
      replace hinv := Lib.hid hinv
      clear hend
      replace hend' := Lib.hid hend'
      go_wp2_with fail
      go_ret2
      rw [hok.out]
      exact ⟨_, rfl, Rd.of_own hown, hW⟩
set_option maxRecDepth 100000 in
set_option maxHeartbeats 1000000 in
theorem splitr_any (p : List UInt8) (w : World) : Calls Tryd.prog 25 #[.string (S p)] w (SplitRes (Nm.split p) w) := by
  by_cases h512 : 512 < p.length
  · have t1 : ((p.length : Int) > 512) := by omega
    have hr := Lib.hid (show Nm.split p = ([], 215) by unfold Nm.split; rw [if_pos h512])
    go_enter Tryd.func25, Tryd.ntmps25
    go_wp2
    go_ret2
    exact splitRes_none hr.out (Below.refl _ _)
  have t1 : ¬ ((p.length : Int) > 512) := by omega
  cases p with
  | nil =>
    have hr := Lib.hid (show Nm.split [] = ([], 216) by decide)
    go_enter Tryd.func25, Tryd.ntmps25
    go_wp2
    go_ret2
    exact splitRes_none hr.out (Below.refl _ _)
  | cons c rest =>
    by_cases hc : c = 47
    · subst hc
      by_cases h0 : rest = []
      · subst h0
        have hr := Lib.hid (show Nm.split [47] = ([], 0) by decide)
        go_enter Tryd.func25, Tryd.ntmps25
        go_wp2
        go_ret2
        exact splitRes_none hr.out (Below.refl _ _)
      · exact splitr_loop rest _ w rfl h0 (by omega)
    · have hb := byte_bne c 47 hc
      have hb2 := byte_ne c 47 hc
      have e47 : ((47 : UInt8).toNat : Int) = 47 := rfl
      rw [e47] at hb hb2
      have hr := Lib.hid (show Nm.split (c :: rest) = ([], 216) by unfold Nm.split; rw [if_neg h512]; simp only; rw [if_neg hc])
      replace hc := Lib.hid hc
      rw [List.length_cons] at h512 t1
      go_enter Tryd.func25, Tryd.ntmps25
      go_wp2
      go_ret2
      exact splitRes_none hr.out (Below.refl _ _)
end Go.Proofs.YtopfkbpjfcdjnaaDoor
