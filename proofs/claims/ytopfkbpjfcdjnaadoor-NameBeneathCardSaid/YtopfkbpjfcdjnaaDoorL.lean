/- A path's names: the plain law, the walk of name.Split. -/
import Derived.Test.YtopfkbpjfcdjnaaDoorJ
import Derived.Test.YtopfkbpjfcdjnaaDoorK
namespace Go.Proofs.YtopfkbpjfcdjnaaDoor
open Go.RowKit
namespace Nm
/-- The first name that may not be: its number. -/
def firstBad : List (List UInt8) → Int
  | [] => 0
  | x :: r => if check x = 0 then firstBad r else check x
theorem firstBad_cons (x : List UInt8) (r : List (List UInt8)) : firstBad (x :: r) = if check x = 0 then firstBad r else check x := rfl
def split (p : List UInt8) : List (List UInt8) × Int :=
  if 512 < p.length then ([], 215) else match p with
    | [] => ([], 216)
    | c :: rest => if c = 47 then (if rest = [] then ([], 0) else if firstBad (Tr.spl 47 rest) = 0 then (Tr.spl 47 rest, 0) else ([], firstBad (Tr.spl 47 rest))) else ([], 216)
theorem spl_mem (c : UInt8) (l : List UInt8) : ∀ x ∈ Tr.spl c l, x.length ≤ l.length := by
  induction l with
  | nil => intro x hx; simp [Tr.spl] at hx; subst hx; simp
  | cons b l ih =>
    intro x hx
    unfold Tr.spl at hx
    split at hx
    · rcases List.mem_cons.1 hx with rfl | hx
      · simp
      · have := ih x hx; simp; omega
    · cases hs : Tr.spl c l with
      | nil => exact absurd hs (Tr.spl_ne c l)
      | cons y ys =>
        rw [hs] at hx ih
        rcases List.mem_cons.1 hx with rfl | hx
        · have := ih y (by simp); simp; omega
        · have := ih x (by simp [hx]); simp; omega
theorem spl_length (c : UInt8) (l : List UInt8) : (Tr.spl c l).length ≤ l.length + 1 := by
  induction l with
  | nil => simp [Tr.spl]
  | cons b l ih =>
    unfold Tr.spl
    split
    · simp; omega
    · cases hs : Tr.spl c l with
      | nil => simp
      | cons y ys => rw [hs] at ih; simp at *; omega
end Nm
theorem cut_yes (rest : List UInt8) (w : World) : Calls Tryd.prog 35 #[.string (S (47 :: rest)), .string ⟨#[47]⟩] w (fun e w' => e = .returned (.tuple #[.string (S rest), .bool true]) ∧ w' = w) := by
  refine (Tryd.strings_CutPrefix (S (47 :: rest)) ⟨#[47]⟩ w).mono ?_
  rintro e w' ⟨rfl, rfl⟩
  refine ⟨?_, rfl⟩
  have h1 : Lib.hasPrefix (S (47 :: rest)).data.toList (⟨#[47]⟩ : ByteArray).data.toList = true := by
    rw [S_data]; simp [Lib.hasPrefix, List.isPrefixOf]
  have h2 : Lib.trimPrefix (S (47 :: rest)).data.toList (⟨#[47]⟩ : ByteArray).data.toList = rest := by
    rw [S_data]; simp [Lib.trimPrefix, List.isPrefixOf, Lib.hasPrefix]
  rw [h1, h2]; rfl
theorem cut_no (p : List UInt8) (h : ∀ r, p ≠ 47 :: r) (w : World) : Calls Tryd.prog 35 #[.string (S p), .string ⟨#[47]⟩] w (fun e w' => e = .returned (.tuple #[.string (S p), .bool false]) ∧ w' = w) := by
  refine (Tryd.strings_CutPrefix (S p) ⟨#[47]⟩ w).mono ?_
  rintro e w' ⟨rfl, rfl⟩
  refine ⟨?_, rfl⟩
  have h1 : Lib.hasPrefix (S p).data.toList (⟨#[47]⟩ : ByteArray).data.toList = false := by
    rw [S_data]
    cases p with
    | nil => rfl
    | cons c r =>
      have hc : c ≠ 47 := by intro e; subst e; exact h r rfl
      simp [Lib.hasPrefix, List.isPrefixOf]; exact fun e => hc e.symm
  have h2 : Lib.trimPrefix (S p).data.toList (⟨#[47]⟩ : ByteArray).data.toList = p := by
    unfold Lib.trimPrefix; rw [h1]; rfl
  rw [h1, h2]; rfl
/-- Names and a number. -/
def SplitRes (r : List (List UInt8) × Int) (w : World) (e : Ending) (w' : World) : Prop := ∃ v, e = .returned (.tuple #[v, .int .i64 r.2]) ∧ RdS w' v r.1 ∧ Below w.heap.size w w'
theorem splitRes_none {r : List (List UInt8) × Int} {n : Int} {w w' : World} (h : r = ([], n)) (hb : Below w.heap.size w w') : SplitRes r w (.returned (.tuple #[.slice none 0 0, .int .i64 n])) w' := by
  subst h; exact ⟨_, rfl, Rd.nil _ _, hb⟩
theorem newTexts_rd (w : World) (xs : List (List UInt8)) (hl : xs.length ≤ maxLen) : RdS (w.alloc (.cells (xs.map strV).toArray 9)) (.slice (some ⟨w.heap.size, 0, none⟩) xs.length xs.length) xs :=
  Rd.of_own (newTexts_own w xs hl)
set_option maxRecDepth 100000 in
set_option maxHeartbeats 4000000 in
theorem split_any (p : List UInt8) (w : World) (hG : Gl w) : Calls Tryd.prog 20 #[.string (S p)] w (SplitRes (Nm.split p) w) := by
  by_cases h512 : 512 < p.length
  · have t1 : ((p.length : Int) > 512) := by omega
    have hr := Lib.hid (show Nm.split p = ([], 215) by unfold Nm.split; rw [if_pos h512])
    go_enter Tryd.func20, Tryd.ntmps20
    go_wp2
    go_ret2
    exact splitRes_none hr.out (Below.refl _ _)
  have t1 : ¬ ((p.length : Int) > 512) := by omega
  by_cases hsl : ∃ rest, p = 47 :: rest
  case neg =>
    have hcut := Lib.hid (fun W => cut_no p (fun r e => hsl ⟨r, e⟩) W)
    have hr := Lib.hid (show Nm.split p = ([], 216) by
      unfold Nm.split; rw [if_neg h512]
      cases p with
      | nil => rfl
      | cons c r => simp only; rw [if_neg (by intro e; subst e; exact hsl ⟨r, rfl⟩)])
    clear hsl h512
    go_enter Tryd.func20, Tryd.ntmps20
    go_wp2_with (go_at_call 35; refine (hcut.out _).mono ?_; rintro e w' ⟨rfl, hw⟩; obtain rfl := hw.symm)
    go_ret2
    exact splitRes_none hr.out (Below.refl _ _)
  obtain ⟨rest, rfl⟩ := hsl
  rw [List.length_cons] at h512 t1
  have hcut := Lib.hid (fun W => cut_yes rest W)
  by_cases h0 : rest = []
  · subst h0
    have hr := Lib.hid (show Nm.split [47] = ([], 0) by decide)
    clear h512
    go_enter Tryd.func20, Tryd.ntmps20
    go_wp2_with (go_at_call 35; refine (hcut.out _).mono ?_; rintro e w' ⟨rfl, hw⟩; obtain rfl := hw.symm)
    go_ret2
    exact splitRes_none hr.out (Below.refl _ _)
  have n0 : (rest == []) = false := by simpa using h0
  obtain ⟨xs, hxs⟩ : ∃ xs, Tr.spl 47 rest = xs := ⟨_, rfl⟩
  have hr := Lib.hid (show Nm.split (47 :: rest) = if Nm.firstBad xs = 0 then (xs, 0) else ([], Nm.firstBad xs) by
    unfold Nm.split; rw [if_neg (by simpa using h512)]; simp only [if_true, if_neg h0, hxs])
  have hsp := Lib.hid (split_S 47 rest w hG (by omega))
  rw [hxs] at hsp
  have hmem := Lib.hid (fun x (hx : x ∈ xs) => Nm.spl_mem 47 rest x (by rw [hxs]; exact hx))
  have hxl := Nm.spl_length 47 rest
  rw [hxs] at hxl
  have hrd := newTexts_rd w xs (by unfold maxLen; omega)
  obtain ⟨W1, hW1⟩ : ∃ W1, w.alloc (.cells (xs.map strV).toArray 9) = W1 := ⟨_, rfl⟩
  have hb1 := Lib.hid (show Below w.heap.size w W1 by rw [← hW1]; exact (Below.refl _ _).alloc (Nat.le_refl _) _)
  rw [hW1] at hrd
  unfold NewTexts at hsp
  rw [hW1] at hsp
  replace hW1 := Lib.hid hW1
  replace hrd := Lib.hid hrd
  clear hG h0
  replace hxs := Lib.hid hxs
  have hrl : rest.length ≤ 512 := by omega
  clear h512
  go_enter Tryd.func20, Tryd.ntmps20
  go_wp2_with (first | (go_at_call 35; refine (hcut.out _).mono ?_; rintro e w' ⟨rfl, hw⟩; obtain rfl := hw.symm) | (go_at_call 36; refine hsp.out.mono ?_; rintro e w' ⟨rfl, hw⟩; obtain rfl := hw.symm))
  go_loopw [28] (fun i wr => wr = W1 ∧ ∃ k : Nat, k ≤ xs.length ∧ i = .int .i64 k ∧ Nm.firstBad xs = Nm.firstBad (xs.drop k)) (fun i _ => xs.length - (intOf i).toNat)
  case atStart => exact ⟨rfl, 0, Nat.zero_le _, rfl, rfl⟩
  case round =>
    obtain ⟨hw, k, hk, rfl, hF⟩ := hrel
    obtain rfl := hw.symm
    by_cases hlt : k < xs.length
    · obtain ⟨b, o, he, hbk, hcell⟩ := (show ∃ b o, (some ⟨w.heap.size, 0, none⟩ : Option Addr) = some ⟨b, o, none⟩ ∧ b < W1.heap.size ∧ W1.cell? ⟨b, o + k, none⟩ = some (strV xs[k]) by
        obtain ⟨a, cap, hv, hc, h3⟩ := hrd.out
        cases hv
        exact h3 k _ (List.getElem?_eq_getElem hlt))
      cases he
      obtain ⟨x, hx⟩ : ∃ x, xs[k] = x := ⟨_, rfl⟩
      rw [hx] at hcell
      unfold strV at hcell
      rw [Nat.zero_add] at hcell
      have hdr := Lib.hid (show xs.drop k = xs[k] :: xs.drop (k + 1) from List.drop_eq_getElem_cons hlt)
      have hchk := fun W => check_any x W (by have := hmem.out xs[k] (List.getElem_mem hlt); rw [hx] at this; omega)
      replace hchk := Lib.hid hchk
      rw [hx] at hdr
      replace hx := Lib.hid hx
      rw [hdr.out] at hF
      rw [Nm.firstBad_cons] at hF
      obtain ⟨n, hn⟩ : ∃ n, Nm.check x = n := ⟨_, rfl⟩
      rw [hn] at hchk hF
      replace hn := Lib.hid hn
      by_cases hn0 : n = 0
      · subst hn0
        rw [if_pos rfl] at hF
        replace hF := Lib.hid hF
        go_wp2_with (go_at_call 29; refine (hchk.out _).mono ?_; rintro e w' ⟨rfl, hw⟩; obtain rfl := hw.symm)
        go_roundw
        case rel => exact ⟨trivial, k + 1, by omega, by go_num, hF.out⟩
        case measure => simp [intOf]; omega
      · have hn1 : (n == 0) = false := by simpa using hn0
        rw [if_neg hn0] at hF
        replace hF := Lib.hid hF
        go_wp2_with (go_at_call 29; refine (hchk.out _).mono ?_; rintro e w' ⟨rfl, hw⟩; obtain rfl := hw.symm)
        go_ret2
        exact splitRes_none (by rw [hr.out, hF.out, if_neg hn0]) hb1.out
    · have hk' : k = xs.length := by omega
      subst hk'
      rw [List.drop_length] at hF
      replace hF := Lib.hid hF
      go_wp2
      go_ret2
      have hrr : Nm.split (47 :: rest) = (xs, 0) := by rw [hr.out, if_pos (by rw [hF.out]; rfl)]
      rw [hrr]
      exact ⟨_, rfl, hrd.out, hb1.out⟩
end Go.Proofs.YtopfkbpjfcdjnaaDoor
