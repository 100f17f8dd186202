/- name.Split once more: its slice is the call's own; NameBeneath's plain laws. -/
import Derived.Test.YtopfkbpjfcdjnaaDoorAm
namespace Go.Proofs.YtopfkbpjfcdjnaaDoor
open Go.RowKit
/-- Names and a number; the names are the call's own. -/
def SplitOwn (r : List (List UInt8) × Int) (w : World) (e : Ending) (w' : World) : Prop :=
  ∃ v, e = .returned (.tuple #[v, .int .i64 r.2]) ∧ w'.ownsRow w.heap.size 9 1 v r.1.length (r.1.map strV) ∧ Below w.heap.size w w'
theorem splitOwn_none {r : List (List UInt8) × Int} {n : Int} {w w' : World} (h : r = ([], n)) (hb : Below w.heap.size w w') : SplitOwn r w (.returned (.tuple #[.slice none 0 0, .int .i64 n])) w' := by
  subst h; exact ⟨_, rfl, World.ownsRow_nil _ _ _ _, hb⟩
namespace Nm
theorem ways_at (p : List UInt8) (i : Nat) (hi : i < (ways p).length) : ∃ xs, split p = (xs, 0) ∧ i ≤ xs.length ∧ (ways p)[i] = upto (xs.take i) := by
  obtain ⟨⟨xs, m⟩, hp⟩ : ∃ r, split p = r := ⟨_, rfl⟩
  by_cases hm : m = 0
  · subst hm
    have hw : ways p = waysOf xs := by unfold ways; rw [hp]; simp
    refine ⟨xs, hp, ?_, ?_⟩
    · rw [hw, waysOf_len] at hi; omega
    · simp only [hw]; simp [waysOf]
  · have hw : ways p = [] := by unfold ways; rw [hp]; simp [hm]
    rw [hw] at hi; simp at hi
theorem ways_under (p : List UInt8) (i k : Nat) (hi : i < (ways p).length) (hk : k < (ways p).length) : under (ways p)[i] (ways p)[k] = decide (k ≤ i) := by
  obtain ⟨xs, hp, h1, e1⟩ := ways_at p i hi
  obtain ⟨ys, hp2, h2, e2⟩ := ways_at p k hk
  obtain rfl : xs = ys := by rw [hp] at hp2; simpa using hp2
  rw [e1, e2, under_eq, split_join (join_take hp i), split_join (join_take hp k)]
  simp only [true_and]
  congr 1
  apply propext
  constructor
  · intro h; have := h.length_le; rw [List.length_take, List.length_take] at this; omega
  · intro h
    have : xs.take k = (xs.take i).take k := by rw [List.take_take, Nat.min_eq_left h]
    rw [this]; exact List.take_prefix _ _
theorem ways_ends (p : List UInt8) (h : 0 < (ways p).length) : (ways p)[0] = [47] ∧ (ways p)[(ways p).length - 1] = p := by
  obtain ⟨xs, hp, _, e1⟩ := ways_at p 0 h
  obtain ⟨ys, hp2, h2, e2⟩ := ways_at p ((ways p).length - 1) (by omega)
  obtain rfl : xs = ys := by rw [hp] at hp2; simpa using hp2
  have hw : (ways p).length = xs.length + 1 := by
    have : ways p = waysOf xs := by unfold ways; rw [hp]; simp
    rw [this, waysOf_len]
  refine ⟨by rw [e1]; simp [upto], ?_⟩
  rw [e2]
  have : (ways p).length - 1 = xs.length := by omega
  rw [this, List.take_length]
  exact upto_of hp
theorem parent_ok {p : List UInt8} (h : (parent p).2.2 = 0) : ∃ xs, ∃ hx : xs ≠ [], split p = (xs, 0) ∧ parent p = (upto (xs.take (xs.length - 1)), xs[xs.length - 1]'(by have := List.length_pos_iff.2 hx; omega), 0) := by
  obtain ⟨⟨xs, m⟩, hp⟩ : ∃ r, split p = r := ⟨_, rfl⟩
  unfold parent at h ⊢
  rw [hp] at h ⊢
  simp only at h ⊢
  by_cases hm : m = 0
  · subst hm
    rw [if_pos rfl] at h ⊢
    by_cases hx : xs = []
    · rw [if_pos hx] at h; simp at h
    · refine ⟨xs, hx, rfl, ?_⟩
      have := List.length_pos_iff.2 hx
      rw [if_neg hx, List.getD_eq_getElem?_getD, List.getElem?_eq_getElem (by omega)]; rfl
  · rw [if_neg hm] at h; exact absurd h hm
end Nm
set_option maxRecDepth 100000 in
set_option maxHeartbeats 4000000 in
theorem split_own (p : List UInt8) (w : World) (hG : Gl w) : Calls Tryd.prog 20 #[.string (S p)] w (SplitOwn (Nm.split p) w) := by
  by_cases h512 : 512 < p.length
  · have t1 : ((p.length : Int) > 512) := by omega
    have hr := Lib.hid (show Nm.split p = ([], 215) by unfold Nm.split; rw [if_pos h512])
    go_enter Tryd.func20, Tryd.ntmps20
    go_wp2
    go_ret2
    exact splitOwn_none hr.out (Below.refl _ _)
  have t1 : ¬ ((p.length : Int) > 512) := by omega
  by_cases hsl : ∃ rest, p = 47 :: rest
  case neg =>
    have hcut := Lib.hid (fun W => cut_no p (fun r e => hsl ⟨r, e⟩) W)
    have hr := Lib.hid (show Nm.split p = ([], 216) by
      unfold Nm.split; rw [if_neg h512]
      cases p with
      | nil => rfl
      | cons c r => simp only; rw [if_neg (by intro e; subst e; exact hsl ⟨r, rfl⟩)])
    clear hsl h512
    go_enter Tryd.func20, Tryd.ntmps20
    go_wp2_with (go_at_call 35; refine (hcut.out _).mono ?_; rintro e w' ⟨rfl, hw⟩; obtain rfl := hw.symm)
    go_ret2
    exact splitOwn_none hr.out (Below.refl _ _)
  obtain ⟨rest, rfl⟩ := hsl
  rw [List.length_cons] at h512 t1
  have hcut := Lib.hid (fun W => cut_yes rest W)
  by_cases h0 : rest = []
  · subst h0
    have hr := Lib.hid (show Nm.split [47] = ([], 0) by decide)
    clear h512
    go_enter Tryd.func20, Tryd.ntmps20
    go_wp2_with (go_at_call 35; refine (hcut.out _).mono ?_; rintro e w' ⟨rfl, hw⟩; obtain rfl := hw.symm)
    go_ret2
    exact splitOwn_none hr.out (Below.refl _ _)
  have n0 : (rest == []) = false := by simpa using h0
  obtain ⟨xs, hxs⟩ : ∃ xs, Tr.spl 47 rest = xs := ⟨_, rfl⟩
  have hr := Lib.hid (show Nm.split (47 :: rest) = if Nm.firstBad xs = 0 then (xs, 0) else ([], Nm.firstBad xs) by
    unfold Nm.split; rw [if_neg (by simpa using h512)]; simp only [if_true, if_neg h0, hxs])
  have hsp := Lib.hid (split_S 47 rest w hG (by omega))
  rw [hxs] at hsp
  have hmem := Lib.hid (fun x (hx : x ∈ xs) => Nm.spl_mem 47 rest x (by rw [hxs]; exact hx))
  have hxl := Nm.spl_length 47 rest
  rw [hxs] at hxl
  have hrd := newTexts_own w xs (by unfold maxLen; omega)
  obtain ⟨W1, hW1⟩ : ∃ W1, w.alloc (.cells (xs.map strV).toArray 9) = W1 := ⟨_, rfl⟩
  have hb1 := Lib.hid (show Below w.heap.size w W1 by rw [← hW1]; exact (Below.refl _ _).alloc (Nat.le_refl _) _)
  rw [hW1] at hrd
  unfold NewTexts at hsp
  rw [hW1] at hsp
  replace hW1 := Lib.hid hW1
  replace hrd := Lib.hid hrd
  clear hG h0
  replace hxs := Lib.hid hxs
  have hrl : rest.length ≤ 512 := by omega
  clear h512
  go_enter Tryd.func20, Tryd.ntmps20
  go_wp2_with (first | (go_at_call 35; refine (hcut.out _).mono ?_; rintro e w' ⟨rfl, hw⟩; obtain rfl := hw.symm) | (go_at_call 36; refine hsp.out.mono ?_; rintro e w' ⟨rfl, hw⟩; obtain rfl := hw.symm))
  go_loopw [28] (fun i wr => wr = W1 ∧ ∃ k : Nat, k ≤ xs.length ∧ i = .int .i64 k ∧ Nm.firstBad xs = Nm.firstBad (xs.drop k)) (fun i _ => xs.length - (intOf i).toNat)
  case atStart => exact ⟨rfl, 0, Nat.zero_le _, rfl, rfl⟩
  case round =>
    obtain ⟨hw, k, hk, rfl, hF⟩ := hrel
    obtain rfl := hw.symm
    by_cases hlt : k < xs.length
    · obtain ⟨b, o, he, hbk, hcell⟩ := (show ∃ b o, (some ⟨w.heap.size, 0, none⟩ : Option Addr) = some ⟨b, o, none⟩ ∧ b < W1.heap.size ∧ W1.cell? ⟨b, o + k, none⟩ = some (strV xs[k]) by
        obtain ⟨a, cap, hv, hc, h3⟩ := Rd.of_own (enc := strV) (xs := xs) hrd.out
        cases hv
        exact h3 k _ (List.getElem?_eq_getElem hlt))
      cases he
      obtain ⟨x, hx⟩ : ∃ x, xs[k] = x := ⟨_, rfl⟩
      rw [hx] at hcell
      unfold strV at hcell
      rw [Nat.zero_add] at hcell
      have hdr := Lib.hid (show xs.drop k = xs[k] :: xs.drop (k + 1) from List.drop_eq_getElem_cons hlt)
      have hchk := fun W => check_any x W (by have := hmem.out xs[k] (List.getElem_mem hlt); rw [hx] at this; omega)
      replace hchk := Lib.hid hchk
      rw [hx] at hdr
      replace hx := Lib.hid hx
      rw [hdr.out] at hF
      rw [Nm.firstBad_cons] at hF
      obtain ⟨n, hn⟩ : ∃ n, Nm.check x = n := ⟨_, rfl⟩
      rw [hn] at hchk hF
      replace hn := Lib.hid hn
      by_cases hn0 : n = 0
      · subst hn0
        rw [if_pos rfl] at hF
        replace hF := Lib.hid hF
        go_wp2_with (go_at_call 29; refine (hchk.out _).mono ?_; rintro e w' ⟨rfl, hw⟩; obtain rfl := hw.symm)
        go_roundw
        case rel => exact ⟨trivial, k + 1, by omega, by go_num, hF.out⟩
        case measure => simp [intOf]; omega
      · have hn1 : (n == 0) = false := by simpa using hn0
        rw [if_neg hn0] at hF
        replace hF := Lib.hid hF
        go_wp2_with (go_at_call 29; refine (hchk.out _).mono ?_; rintro e w' ⟨rfl, hw⟩; obtain rfl := hw.symm)
        go_ret2
        exact splitOwn_none (by rw [hr.out, hF.out, if_neg hn0]) hb1.out
    · have hk' : k = xs.length := by omega
      subst hk'
      rw [List.drop_length] at hF
      replace hF := Lib.hid hF
      go_wp2
      go_ret2
      have hrr : Nm.split (47 :: rest) = (xs, 0) := by rw [hr.out, if_pos (by rw [hF.out]; rfl)]
      rw [hrr]
      exact ⟨_, rfl, hrd.out, hb1.out⟩
end Go.Proofs.YtopfkbpjfcdjnaaDoor
