/- name.Split once more: its slice is new. -/
import Derived.Test.YtopfkbpjfcdjnaaDoorL
namespace Go.Proofs.YtopfkbpjfcdjnaaDoor
open Go.RowKit
/-- Names and a number; the names lie in a block of the call's own. -/
def SplitNew (r : List (List UInt8) × Int) (w : World) (e : Ending) (w' : World) : Prop :=
  ∃ v, e = .returned (.tuple #[v, .int .i64 r.2]) ∧ RdS w' v r.1 ∧ Below w.heap.size w w' ∧ (v = .slice none 0 0 ∨ ∃ b n cap, v = .slice (some ⟨b, 0, none⟩) n cap ∧ w.heap.size ≤ b ∧ b < w'.heap.size)
theorem splitNew_none {r : List (List UInt8) × Int} {n : Int} {w w' : World} (h : r = ([], n)) (hb : Below w.heap.size w w') : SplitNew r w (.returned (.tuple #[.slice none 0 0, .int .i64 n])) w' := by
  subst h; exact ⟨_, rfl, Rd.nil _ _, hb, .inl rfl⟩
set_option maxRecDepth 100000 in
set_option maxHeartbeats 4000000 in
theorem split_new (p : List UInt8) (w : World) (hG : Gl w) : Calls Tryd.prog 20 #[.string (S p)] w (SplitNew (Nm.split p) w) := by
  by_cases h512 : 512 < p.length
  · have t1 : ((p.length : Int) > 512) := by omega
    have hr := Lib.hid (show Nm.split p = ([], 215) by unfold Nm.split; rw [if_pos h512])
    go_enter Tryd.func20, Tryd.ntmps20
    go_wp2
    go_ret2
    exact splitNew_none hr.out (Below.refl _ _)
  have t1 : ¬ ((p.length : Int) > 512) := by omega
  by_cases hsl : ∃ rest, p = 47 :: rest
  case neg =>
    have hcut := Lib.hid (fun W => cut_no p (fun r e => hsl ⟨r, e⟩) W)
    have hr := Lib.hid (show Nm.split p = ([], 216) by
      unfold Nm.split; rw [if_neg h512]
      cases p with
      | nil => rfl
      | cons c r => simp only; rw [if_neg (by intro e; subst e; exact hsl ⟨r, rfl⟩)])
    clear hsl h512
    go_enter Tryd.func20, Tryd.ntmps20
    go_wp2_with (go_at_call 35; refine (hcut.out _).mono ?_; rintro e w' ⟨rfl, hw⟩; obtain rfl := hw.symm)
    go_ret2
    exact splitNew_none hr.out (Below.refl _ _)
  obtain ⟨rest, rfl⟩ := hsl
  rw [List.length_cons] at h512 t1
  have hcut := Lib.hid (fun W => cut_yes rest W)
  by_cases h0 : rest = []
  · subst h0
    have hr := Lib.hid (show Nm.split [47] = ([], 0) by decide)
    clear h512
    go_enter Tryd.func20, Tryd.ntmps20
    go_wp2_with (go_at_call 35; refine (hcut.out _).mono ?_; rintro e w' ⟨rfl, hw⟩; obtain rfl := hw.symm)
    go_ret2
    exact splitNew_none hr.out (Below.refl _ _)
  have n0 : (rest == []) = false := by simpa using h0
  obtain ⟨xs, hxs⟩ : ∃ xs, Tr.spl 47 rest = xs := ⟨_, rfl⟩
  have hr := Lib.hid (show Nm.split (47 :: rest) = if Nm.firstBad xs = 0 then (xs, 0) else ([], Nm.firstBad xs) by
    unfold Nm.split; rw [if_neg (by simpa using h512)]; simp only [if_true, if_neg h0, hxs])
  have hsp := Lib.hid (split_S 47 rest w hG (by omega))
  rw [hxs] at hsp
  have hmem := Lib.hid (fun x (hx : x ∈ xs) => Nm.spl_mem 47 rest x (by rw [hxs]; exact hx))
  have hxl := Nm.spl_length 47 rest
  rw [hxs] at hxl
  have hrd := newTexts_rd w xs (by unfold maxLen; omega)
  obtain ⟨W1, hW1⟩ : ∃ W1, w.alloc (.cells (xs.map strV).toArray 9) = W1 := ⟨_, rfl⟩
  have hb1 := Lib.hid (show Below w.heap.size w W1 by rw [← hW1]; exact (Below.refl _ _).alloc (Nat.le_refl _) _)
  rw [hW1] at hrd
  unfold NewTexts at hsp
  rw [hW1] at hsp
  replace hW1 := Lib.hid hW1
  replace hrd := Lib.hid hrd
  clear hG h0
  replace hxs := Lib.hid hxs
  have hrl : rest.length ≤ 512 := by omega
  clear h512
  go_enter Tryd.func20, Tryd.ntmps20
  go_wp2_with (first | (go_at_call 35; refine (hcut.out _).mono ?_; rintro e w' ⟨rfl, hw⟩; obtain rfl := hw.symm) | (go_at_call 36; refine hsp.out.mono ?_; rintro e w' ⟨rfl, hw⟩; obtain rfl := hw.symm))
  go_loopw [28] (fun i wr => wr = W1 ∧ ∃ k : Nat, k ≤ xs.length ∧ i = .int .i64 k ∧ Nm.firstBad xs = Nm.firstBad (xs.drop k)) (fun i _ => xs.length - (intOf i).toNat)
  case atStart => exact ⟨rfl, 0, Nat.zero_le _, rfl, rfl⟩
  case round =>
    obtain ⟨hw, k, hk, rfl, hF⟩ := hrel
    obtain rfl := hw.symm
    by_cases hlt : k < xs.length
    · obtain ⟨b, o, he, hbk, hcell⟩ := (show ∃ b o, (some ⟨w.heap.size, 0, none⟩ : Option Addr) = some ⟨b, o, none⟩ ∧ b < W1.heap.size ∧ W1.cell? ⟨b, o + k, none⟩ = some (strV xs[k]) by
        obtain ⟨a, cap, hv, hc, h3⟩ := hrd.out
        cases hv
        exact h3 k _ (List.getElem?_eq_getElem hlt))
      cases he
      obtain ⟨x, hx⟩ : ∃ x, xs[k] = x := ⟨_, rfl⟩
      rw [hx] at hcell
      unfold strV at hcell
      rw [Nat.zero_add] at hcell
      have hdr := Lib.hid (show xs.drop k = xs[k] :: xs.drop (k + 1) from List.drop_eq_getElem_cons hlt)
      have hchk := fun W => check_any x W (by have := hmem.out xs[k] (List.getElem_mem hlt); rw [hx] at this; omega)
      replace hchk := Lib.hid hchk
      rw [hx] at hdr
      replace hx := Lib.hid hx
      rw [hdr.out] at hF
      rw [Nm.firstBad_cons] at hF
      obtain ⟨n, hn⟩ : ∃ n, Nm.check x = n := ⟨_, rfl⟩
      rw [hn] at hchk hF
      replace hn := Lib.hid hn
      by_cases hn0 : n = 0
      · subst hn0
        rw [if_pos rfl] at hF
        replace hF := Lib.hid hF
        go_wp2_with (go_at_call 29; refine (hchk.out _).mono ?_; rintro e w' ⟨rfl, hw⟩; obtain rfl := hw.symm)
        go_roundw
        case rel => exact ⟨trivial, k + 1, by omega, by go_num, hF.out⟩
        case measure => simp [intOf]; omega
      · have hn1 : (n == 0) = false := by simpa using hn0
        rw [if_neg hn0] at hF
        replace hF := Lib.hid hF
        go_wp2_with (go_at_call 29; refine (hchk.out _).mono ?_; rintro e w' ⟨rfl, hw⟩; obtain rfl := hw.symm)
        go_ret2
        exact splitNew_none (by rw [hr.out, hF.out, if_neg hn0]) hb1.out
    · have hk' : k = xs.length := by omega
      subst hk'
      rw [List.drop_length] at hF
      replace hF := Lib.hid hF
      go_wp2
      go_ret2
      have hrr : Nm.split (47 :: rest) = (xs, 0) := by rw [hr.out, if_pos (by rw [hF.out]; rfl)]
      rw [hrr]
      exact ⟨_, rfl, hrd.out, hb1.out, .inr ⟨_, _, _, rfl, Nat.le_refl _, by rw [← hW1.out]; simp⟩⟩
end Go.Proofs.YtopfkbpjfcdjnaaDoor
