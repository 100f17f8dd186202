/- The path of names: the plain law, the walk of name.Join. -/
import Derived.Test.YtopfkbpjfcdjnaaDoorL
namespace Go.Proofs.YtopfkbpjfcdjnaaDoor
open Go.RowKit
namespace Nm
def joinLen (xs : List (List UInt8)) : Nat := (xs.map fun x => x.length + 1).sum
def path (xs : List (List UInt8)) : List UInt8 := xs.flatMap fun x => 47 :: x
def join (xs : List (List UInt8)) : List UInt8 × Int :=
  if firstBad xs = 0 then (if xs = [] then ([47], 0) else if 512 < joinLen xs then ([], 215) else (path xs, 0)) else ([], firstBad xs)
theorem path_len (xs : List (List UInt8)) : (path xs).length = joinLen xs := by
  unfold path joinLen
  induction xs with
  | nil => rfl
  | cons x r ih => simp only [List.flatMap_cons, List.map_cons, List.sum_cons, List.length_append, List.length_cons]; omega
theorem joinLen_take (xs : List (List UInt8)) (k : Nat) (h : k < xs.length) : joinLen (xs.take (k + 1)) = joinLen (xs.take k) + (xs[k].length + 1) := by
  unfold joinLen
  rw [List.take_succ_eq_append_getElem h, List.map_append, List.sum_append]
  simp only [List.map_cons, List.map_nil, List.sum_cons, List.sum_nil, Nat.add_zero]
theorem joinTail_path (r : List (List UInt8)) : Lib.joinTail [47] r = path r := by
  unfold Lib.joinTail path
  rw [List.flatMap_def]; rfl
theorem join_path (xs : List (List UInt8)) (h : xs ≠ []) : 47 :: Lib.join xs [47] = path xs := by
  cases xs with
  | nil => exact absurd rfl h
  | cons x r =>
    have : Lib.join (x :: r) [47] = x ++ Lib.joinTail [47] r := by
      first
        | exact Lib.join_cons x r [47]
        | exact Lib.join_cons [47] x r
        | exact Lib.join_cons ..
    rw [this, joinTail_path]
    simp [path]
end Nm
/-- A text and a number. -/
def JoinRes (r : List UInt8 × Int) (w : World) (e : Ending) (w' : World) : Prop := e = .returned (.tuple #[.string (S r.1), .int .i64 r.2]) ∧ Below w.heap.size w w'
theorem joinRes_mk {r : List UInt8 × Int} {a : List UInt8} {n : Int} {w : World} {e : Ending} {w' : World} (h : r = (a, n)) (he : e = .returned (.tuple #[.string (S a), .int .i64 n])) (hb : Below w.heap.size w w') : JoinRes r w e w' := by
  subst h; exact ⟨he, hb⟩
set_option maxRecDepth 100000 in
set_option maxHeartbeats 4000000 in
theorem join_any (xs : List (List UInt8)) (v : Value) (w : World) (hr : RdS w v xs) (hl : ∀ x ∈ xs, x.length ≤ 140737488355328) (hn : xs.length ≤ 140737488355328) :
    Calls Tryd.prog 11 #[v] w (JoinRes (Nm.join xs) w) := by
  have hjoin := fun (hj : (Lib.join xs [47]).length ≤ 140737488355328) => join_S w v xs 47 hr hn hj
  obtain ⟨a, cap, hv, hc, h3⟩ := hr
  subst hv
  replace hl := Lib.hid hl
  replace h3 := Lib.hid h3
  replace hjoin := Lib.hid hjoin
  go_enter Tryd.func11, Tryd.ntmps11
  go_wp2
  go_loopw [4, 10] (fun sz i wr => wr = w ∧ ∃ (k : Nat) (s : Int), k ≤ xs.length ∧ i = .int .i64 k ∧ sz = .int .i64 s ∧ 0 ≤ s ∧ s ≤ 513 ∧ (s = 513 ∧ (513 : Int) ≤ Nm.joinLen (xs.take k) ∨ s = Nm.joinLen (xs.take k)) ∧ Nm.firstBad xs = Nm.firstBad (xs.drop k)) (fun _ i _ => xs.length - (intOf i).toNat)
  case atStart => exact ⟨rfl, 0, 0, Nat.zero_le _, rfl, rfl, by omega, by omega, .inr (by simp [Nm.joinLen]), rfl⟩
  case round =>
    obtain ⟨hw, k, s, hk, rfl, rfl, hs0, hs1, hS, hF⟩ := hrel
    obtain rfl := hw.symm
    by_cases hlt : k < xs.length
    · obtain ⟨b, o, he, hbk, hcell⟩ := h3.out k _ (List.getElem?_eq_getElem hlt)
      subst he
      obtain ⟨x, hx⟩ : ∃ x, xs[k] = x := ⟨_, rfl⟩
      rw [hx] at hcell
      unfold strV at hcell
      have hdr := Lib.hid (show xs.drop k = xs[k] :: xs.drop (k + 1) from List.drop_eq_getElem_cons hlt)
      have hxl := hl.out xs[k] (List.getElem_mem hlt)
      have hjl := Nm.joinLen_take xs k hlt
      rw [hx] at hdr hxl hjl
      have hchk := Lib.hid (fun W => check_any x W hxl)
      replace hx := Lib.hid hx
      rw [hdr.out, Nm.firstBad_cons] at hF
      obtain ⟨n, hn'⟩ : ∃ n, Nm.check x = n := ⟨_, rfl⟩
      rw [hn'] at hchk hF
      replace hn' := Lib.hid hn'
      replace hS := Lib.hid hS
      by_cases hn0 : n = 0
      · subst hn0
        rw [if_pos rfl] at hF
        replace hF := Lib.hid hF
        replace hjl := Lib.hid hjl
        go_wp2_with (go_at_call 29; refine (hchk.out _).mono ?_; rintro e w' ⟨rfl, hw⟩; obtain rfl := hw.symm)
        go_roundw
        case rel => exact ⟨trivial, k + 1, min (s + 1 + x.length) 513, by omega, by go_num, rfl, by omega, by omega, (by have := hjl.out; have := hS.out; omega), hF.out⟩
        case measure => simp [intOf]; omega
      · have hn1 : (n == 0) = false := by simpa using hn0
        rw [if_neg hn0] at hF
        replace hF := Lib.hid hF
        go_wp2_with (go_at_call 29; refine (hchk.out _).mono ?_; rintro e w' ⟨rfl, hw⟩; obtain rfl := hw.symm)
        go_ret2
        exact joinRes_mk (a := []) (by unfold Nm.join; rw [hF.out, if_neg hn0]) rfl (Below.refl _ _)
    · have hk' : k = xs.length := by omega
      subst hk'
      rw [List.drop_length] at hF
      rw [List.take_length] at hS
      have hF0 : Nm.firstBad xs = 0 := hF
      replace hF0 := Lib.hid hF0
      clear hF
      by_cases h0 : xs = []
      · have z0 : xs.length = 0 := by rw [h0]; rfl
        replace h0 := Lib.hid h0
        go_wp2
        go_ret2
        exact joinRes_mk (a := [47]) (by rw [h0.out]; decide) rfl (Below.refl _ _)
      · have z0 : ((xs.length : Int) == 0) = false := by
          rw [beq_eq_false_iff_ne]; intro e; exact h0 (List.eq_nil_of_length_eq_zero (by omega))
        by_cases h512 : 512 < Nm.joinLen xs
        · have t1 : (512 : Int) < s := by omega
          replace hS := Lib.hid hS
          go_wp2
          go_ret2
          exact joinRes_mk (a := []) (by unfold Nm.join; rw [hF0.out, if_pos rfl, if_neg h0, if_pos h512]) rfl (Below.refl _ _)
        · have t1 : ¬ (512 : Int) < s := by omega
          have hp := Lib.hid (Nm.join_path xs h0)
          have hpl := Nm.path_len xs
          rw [← hp.out, List.length_cons] at hpl
          replace hS := Lib.hid hS
          have hj := Lib.hid (hjoin.out (by omega))
          go_wp2_with (go_at_call 31; refine hj.out.mono ?_; rintro e w' ⟨rfl, hb⟩)
          go_ret2
          exact joinRes_mk (a := Nm.path xs) (by unfold Nm.join; rw [hF0.out, if_pos rfl, if_neg h0, if_neg h512]) (by rw [← hp.out]; rfl) hb
end Go.Proofs.YtopfkbpjfcdjnaaDoor
