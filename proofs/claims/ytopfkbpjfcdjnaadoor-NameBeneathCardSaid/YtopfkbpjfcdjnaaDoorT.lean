/- The walk of the reference's Join. -/
import Derived.Test.YtopfkbpjfcdjnaaDoorN
namespace Go.Proofs.YtopfkbpjfcdjnaaDoor
open Go.RowKit
namespace Nm
theorem path_take (xs : List (List UInt8)) (k : Nat) (h : k < xs.length) : path (xs.take (k + 1)) = path (xs.take k) ++ (47 :: xs[k]) := by
  unfold path
  rw [List.take_succ_eq_append_getElem h, List.flatMap_append]; simp
theorem path_nil (xs : List (List UInt8)) (h : xs ≠ []) : path xs ≠ [] := by
  cases xs with
  | nil => exact absurd rfl h
  | cons x r => simp [path]
end Nm
set_option maxRecDepth 100000 in
set_option maxHeartbeats 4000000 in
theorem joinr_any (xs : List (List UInt8)) (v : Value) (w : World) (hr : RdS w v xs) (hl : ∀ x ∈ xs, x.length ≤ 140737488355328) (hn : xs.length ≤ 140737488355328) :
    Calls Tryd.prog 12 #[v] w (JoinRes (Nm.join xs) w) := by
  obtain ⟨a, cap, hv, hc, h3⟩ := hr
  subst hv
  replace hl := Lib.hid hl
  replace h3 := Lib.hid h3
  go_enter Tryd.func12, Tryd.ntmps12
  go_wp2
  go_loopw [5] (fun i wr => wr = w ∧ ∃ k : Nat, k ≤ xs.length ∧ i = .int .i64 k ∧ Nm.firstBad xs = Nm.firstBad (xs.drop k)) (fun i _ => xs.length - (intOf i).toNat)
  case atStart => exact ⟨rfl, 0, Nat.zero_le _, rfl, rfl⟩
  case round =>
    obtain ⟨hw, k, hk, rfl, hF⟩ := hrel
    obtain rfl := hw.symm
    by_cases hlt : k < xs.length
    · obtain ⟨b, o, he, hbk, hcell⟩ := h3.out k _ (List.getElem?_eq_getElem hlt)
      subst he
      obtain ⟨x, hx⟩ : ∃ x, xs[k] = x := ⟨_, rfl⟩
      rw [hx] at hcell
      unfold strV at hcell
      have hdr := Lib.hid (show xs.drop k = xs[k] :: xs.drop (k + 1) from List.drop_eq_getElem_cons hlt)
      have hxl := hl.out xs[k] (List.getElem_mem hlt)
      rw [hx] at hdr hxl
      have hchk := Lib.hid (fun W => checkr_any x W hxl)
      replace hx := Lib.hid hx
      rw [hdr.out, Nm.firstBad_cons] at hF
      obtain ⟨n, hn'⟩ : ∃ n, Nm.check x = n := ⟨_, rfl⟩
      rw [hn'] at hchk hF
      replace hn' := Lib.hid hn'
      by_cases hn0 : n = 0
      · subst hn0
        rw [if_pos rfl] at hF
        replace hF := Lib.hid hF
        go_wp2_with (go_at_call 30; refine (hchk.out _).mono ?_; rintro e w' ⟨rfl, hw⟩; obtain rfl := hw.symm)
        go_roundw
        case rel => exact ⟨trivial, k + 1, by omega, by go_num, hF.out⟩
        case measure => simp [intOf]; omega
      · have hn1 : (n == 0) = false := by simpa using hn0
        rw [if_neg hn0] at hF
        replace hF := Lib.hid hF
        go_wp2_with (go_at_call 30; refine (hchk.out _).mono ?_; rintro e w' ⟨rfl, hw⟩; obtain rfl := hw.symm)
        go_ret2
        exact joinRes_mk (a := []) (by unfold Nm.join; rw [hF.out, if_neg hn0]) rfl (Below.refl _ _)
    · have hk' : k = xs.length := by omega
      subst hk'
      rw [List.drop_length] at hF
      have hF0 : Nm.firstBad xs = 0 := hF
      replace hF0 := Lib.hid hF0
      clear hF
      go_wp2
      go_loopw [4, 7] (fun sz i wr => wr = w ∧ ∃ k : Nat, k ≤ xs.length ∧ i = .int .i64 k ∧ sz = .int .i64 (Nm.joinLen (xs.take k))) (fun _ i _ => xs.length - (intOf i).toNat)
      case atStart => exact ⟨rfl, 0, Nat.zero_le _, rfl, by simp [Nm.joinLen]⟩
      case round =>
        obtain ⟨hw, k, hk, rfl, rfl⟩ := hrel
        obtain rfl := hw.symm
        obtain ⟨n, hn'⟩ : ∃ n, Nm.joinLen (xs.take k) = n := ⟨_, rfl⟩
        rw [hn']
        by_cases hgo : k < xs.length ∧ n ≤ 512
        · obtain ⟨hlt, hn5⟩ := hgo
          obtain ⟨b, o, he, hbk, hcell⟩ := h3.out k _ (List.getElem?_eq_getElem hlt)
          subst he
          have hjl := Nm.joinLen_take xs k hlt
          obtain ⟨x, hx⟩ : ∃ x, xs[k] = x := ⟨_, rfl⟩
          rw [hx] at hcell
          unfold strV at hcell
          have hxl := hl.out xs[k] (List.getElem_mem hlt)
          rw [hx] at hxl hjl
          rw [hn'] at hjl
          replace hx := Lib.hid hx
          replace hn' := Lib.hid hn'
          replace hjl := Lib.hid hjl
          have t5 : ¬ (512 : Int) < n := by omega
          go_wp2
          go_roundw
          case rel => exact ⟨trivial, k + 1, by omega, by go_num, by rw [hjl.out]; congr 1; omega⟩
          case measure => simp [intOf]; omega
        · have hx5 : 512 < Nm.joinLen xs ↔ 512 < n := by
            by_cases hk2 : k = xs.length
            · subst hk2; rw [List.take_length] at hn'; omega
            · have := Nm.joinLen_take_le xs k; omega
          replace hx5 := Lib.hid hx5
          by_cases h0 : xs = []
          · have z0 : xs.length = 0 := by rw [h0]; rfl
            have n0 : n = 0 := by rw [← hn', h0]; simp [Nm.joinLen]
            subst n0
            obtain rfl : k = 0 := by omega
            replace h0 := Lib.hid h0
            replace hn' := Lib.hid hn'
            go_wp2
            go_loopw [8, 9] (fun p i wr => wr = w ∧ i = .int .i64 0 ∧ p = .string (S [])) (fun _ _ _ => 0)
            case atStart => exact ⟨rfl, rfl, rfl⟩
            case round =>
              obtain ⟨hw, rfl, rfl⟩ := hrel
              obtain rfl := hw.symm
              go_wp2
              go_ret2
              exact joinRes_mk (a := [47]) (by rw [h0.out]; decide) rfl (Below.refl _ _)
          · have hpos : 0 < xs.length := List.length_pos_iff.2 h0
            by_cases h5 : 512 < n
            · have t5 : (512 : Int) < n := by omega
              replace hn' := Lib.hid hn'
              have hfin := Lib.hid (show Nm.join xs = ([], 215) by unfold Nm.join; rw [hF0.out, if_pos rfl, if_neg h0, if_pos (hx5.out.2 h5)])
              replace h0 := Lib.hid h0
              by_cases hlt : k < xs.length
              · go_wp2
                go_ret2
                exact joinRes_mk (a := []) hfin.out rfl (Below.refl _ _)
              · go_wp2
                go_ret2
                exact joinRes_mk (a := []) hfin.out rfl (Below.refl _ _)
            · have t5 : ¬ (512 : Int) < n := by omega
              have hk2 : k = xs.length := by omega
              subst hk2
              have hj5 : Nm.joinLen xs ≤ 512 := by have := hx5.out; omega
              replace hn' := Lib.hid hn'
              have hfin := Lib.hid (show Nm.join xs = (Nm.path xs, 0) by unfold Nm.join; rw [hF0.out, if_pos rfl, if_neg h0, if_neg (by omega)])
              have hpn := Lib.hid (Nm.path_nil xs h0)
              replace h0 := Lib.hid h0
              go_wp2
              go_loopw [8, 9] (fun p i wr => wr = w ∧ ∃ k : Nat, k ≤ xs.length ∧ i = .int .i64 k ∧ p = .string (S (Nm.path (xs.take k)))) (fun _ i _ => xs.length - (intOf i).toNat)
              case atStart => exact ⟨rfl, 0, Nat.zero_le _, rfl, by simp [Nm.path]; rfl⟩
              case round =>
                obtain ⟨hw, k, hk, rfl, rfl⟩ := hrel
                obtain rfl := hw.symm
                by_cases hlt : k < xs.length
                · obtain ⟨b, o, he, hbk, hcell⟩ := h3.out k _ (List.getElem?_eq_getElem hlt)
                  subst he
                  have hpt := Nm.path_take xs k hlt
                  have hpl := Nm.path_len (xs.take (k + 1))
                  have hjl := Nm.joinLen_take_le xs (k + 1)
                  obtain ⟨x, hx⟩ : ∃ x, xs[k] = x := ⟨_, rfl⟩
                  rw [hx] at hcell hpt
                  unfold strV at hcell
                  replace hx := Lib.hid hx
                  obtain ⟨p, hp⟩ : ∃ p, Nm.path (xs.take k) = p := ⟨_, rfl⟩
                  rw [hp] at hpt ⊢
                  replace hp := Lib.hid hp
                  have hpp : p.length + (x.length + 1) ≤ 512 := by
                    rw [hpt, List.length_append, List.length_cons] at hpl; omega
                  clear hpl hjl
                  replace hpt := Lib.hid hpt
                  go_wp2
                  go_roundw
                  case rel => exact ⟨trivial, k + 1, by omega, by go_num, by rw [hpt.out]; rfl⟩
                  case measure => simp [intOf]; omega
                · have hk3 : k = xs.length := by omega
                  subst hk3
                  rw [List.take_length]
                  obtain ⟨p, hp⟩ : ∃ p, Nm.path xs = p := ⟨_, rfl⟩
                  rw [hp] at hpn hfin ⊢
                  have p0 : (p == []) = false := by simpa using hpn.out
                  replace hp := Lib.hid hp
                  go_wp2
                  go_ret2
                  exact joinRes_mk (a := p) hfin.out rfl (Below.refl _ _)
end Go.Proofs.YtopfkbpjfcdjnaaDoor
