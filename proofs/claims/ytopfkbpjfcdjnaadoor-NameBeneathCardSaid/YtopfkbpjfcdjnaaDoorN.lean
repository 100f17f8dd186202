/- A path's parent: plain laws of Split and Join, the walk of name.Parent. -/
import Derived.Test.YtopfkbpjfcdjnaaDoorM
import Derived.Test.YtopfkbpjfcdjnaaDoorB
import Derived.BigQuiet
import Derived.OwnWalk
namespace Go.Proofs.YtopfkbpjfcdjnaaDoor
open Go.RowKit
namespace Nm
theorem firstBad_ok (xs : List (List UInt8)) : firstBad xs = 0 ↔ ∀ x ∈ xs, check x = 0 := by
  induction xs with
  | nil => simp [firstBad]
  | cons x r ih =>
    rw [firstBad_cons]
    by_cases h : check x = 0
    · rw [if_pos h, ih]; simp [h]
    · rw [if_neg h]; simp [h]
theorem firstBad_take (xs : List (List UInt8)) (k : Nat) (h : firstBad xs = 0) : firstBad (xs.take k) = 0 :=
  (firstBad_ok _).2 fun x hx => (firstBad_ok xs).1 h x (List.mem_of_mem_take hx)
theorem path_spl (l : List UInt8) : path (Tr.spl 47 l) = 47 :: l := by
  induction l with
  | nil => rfl
  | cons b l ih =>
    by_cases h : b = 47
    · subst h
      have : Tr.spl 47 (47 :: l) = [] :: Tr.spl 47 l := by rw [Tr.spl]; simp
      rw [this]
      show path ([] :: Tr.spl 47 l) = _
      unfold path at *
      rw [List.flatMap_cons, ih]; rfl
    · cases hs : Tr.spl 47 l with
      | nil => exact absurd hs (Tr.spl_ne 47 l)
      | cons x xs =>
        have : Tr.spl 47 (b :: l) = (b :: x) :: xs := by rw [Tr.spl, if_neg h, hs]
        rw [this]
        rw [hs] at ih
        unfold path at *
        rw [List.flatMap_cons] at ih ⊢
        simp only [List.cons_append, List.cons.injEq, true_and] at ih ⊢
        exact ih
theorem split_ok {p : List UInt8} {xs : List (List UInt8)} (h : split p = (xs, 0)) : p.length ≤ 512 ∧ firstBad xs = 0 ∧ ((xs = [] ∧ p = [47]) ∨ (xs ≠ [] ∧ p = path xs)) := by
  unfold split at h
  split at h
  · simp at h
  rename_i hl
  refine ⟨by omega, ?_⟩
  cases p with
  | nil => simp at h
  | cons c rest =>
    simp only at h
    split at h
    · rename_i hc
      subst hc
      split at h
      · rename_i h0
        subst h0
        simp at h
        subst h
        exact ⟨rfl, .inl ⟨rfl, rfl⟩⟩
      · split at h
        · rename_i hF
          simp at h
          subst h
          exact ⟨hF, .inr ⟨Tr.spl_ne 47 rest, (path_spl rest).symm⟩⟩
        · rename_i hF
          simp at h
          exact absurd h.2 hF
    · simp at h
theorem joinLen_take_le (xs : List (List UInt8)) (k : Nat) : joinLen (xs.take k) ≤ joinLen xs := by
  have : joinLen xs = joinLen (xs.take k) + joinLen (xs.drop k) := by
    unfold joinLen
    rw [← List.sum_append, ← List.map_append, List.take_append_drop]
  omega
/-- The path of the first names of a path. -/
def upto (xs : List (List UInt8)) : List UInt8 := if xs = [] then [47] else path xs
theorem join_take {p : List UInt8} {xs : List (List UInt8)} (h : split p = (xs, 0)) (k : Nat) : join (xs.take k) = (upto (xs.take k), 0) := by
  obtain ⟨hl, hF, hc⟩ := split_ok h
  unfold join upto
  rw [if_pos (firstBad_take xs k hF)]
  split
  · rfl
  · rcases hc with ⟨rfl, _⟩ | ⟨_, rfl⟩
    · rename_i h0; simp at h0
    · rw [path_len] at hl
      rw [if_neg (by have := joinLen_take_le xs k; omega)]
def parent (p : List UInt8) : List UInt8 × List UInt8 × Int :=
  if (split p).2 = 0 then (if (split p).1 = [] then ([], [], 216) else (upto ((split p).1.take ((split p).1.length - 1)), (split p).1.getD ((split p).1.length - 1) [], 0)) else ([], [], (split p).2)
theorem split_fst_len (p : List UInt8) : (split p).1.length ≤ 513 := by
  unfold split
  split
  · simp
  rename_i hl
  cases p with
  | nil => simp
  | cons c rest =>
    simp only
    split
    · split
      · simp
      · split
        · have := spl_length 47 rest
          simp at hl ⊢; omega
        · simp
    · simp
theorem split_fst_mem (p : List UInt8) : ∀ x ∈ (split p).1, x.length ≤ 512 := by
  unfold split
  split
  · simp
  rename_i hl
  cases p with
  | nil => simp
  | cons c rest =>
    simp only
    split
    · split
      · simp
      · split
        · intro x hx
          have := spl_mem 47 rest x hx
          simp at hl; omega
        · simp
    · simp
end Nm
theorem Rd.take {α : Type} {enc : α → Value} {W : World} {a : Option Addr} {cap : Nat} {xs : List α} (h : Rd enc W (.slice a xs.length cap) xs) (k n : Nat) (hk : k ≤ xs.length) (hn : n = k) : Rd enc W (.slice a n cap) (xs.take k) := by
  subst hn
  obtain ⟨a', cap', hv, hc, h3⟩ := h
  cases hv
  refine ⟨a, cap, by rw [List.length_take, Nat.min_eq_left hk], by rw [List.length_take]; omega, fun j x hj => h3 j x ?_⟩
  rw [List.getElem?_take] at hj
  split at hj
  · exact hj
  · cases hj
/-- Two texts and a number. -/
def ParRes (r : List UInt8 × List UInt8 × Int) (w : World) (e : Ending) (w' : World) : Prop := e = .returned (.tuple #[.string (S r.1), .string (S r.2.1), .int .i64 r.2.2]) ∧ Below w.heap.size w w'
theorem parRes_mk {r : List UInt8 × List UInt8 × Int} {a b : List UInt8} {n : Int} {w : World} {e : Ending} {w' : World} (h : r = (a, b, n)) (he : e = .returned (.tuple #[.string (S a), .string (S b), .int .i64 n])) (hb : Below w.heap.size w w') : ParRes r w e w' := by
  subst h; exact ⟨he, hb⟩
set_option maxRecDepth 100000 in
set_option maxHeartbeats 4000000 in
theorem parent_any (p : List UInt8) (w : World) (hG : Gl w) : Calls Tryd.prog 22 #[.string (S p)] w (ParRes (Nm.parent p) w) := by
  have hsp := Lib.hid (split_any p w hG)
  obtain ⟨⟨xs, n⟩, hr⟩ : ∃ r, Nm.split p = r := ⟨_, rfl⟩
  have hxl := Nm.split_fst_len p
  have hxm := Nm.split_fst_mem p
  have hP := Lib.hid (show Nm.parent p = if n = 0 then (if xs = [] then ([], [], 216) else (Nm.upto (xs.take (xs.length - 1)), xs.getD (xs.length - 1) [], 0)) else ([], [], n) by unfold Nm.parent; rw [hr])
  rw [hr] at hsp hxl hxm
  simp only at hxl hxm
  replace hxm := Lib.hid hxm
  by_cases hn0 : n = 0
  case neg =>
    have hn1 : (n == 0) = false := by simpa using hn0
    replace hr := Lib.hid hr
    go_enter Tryd.func22, Tryd.ntmps22
    go_wp2_with (go_at_call 20; refine hsp.out.mono ?_; rintro e w1 ⟨v, rfl, hrd, hb1⟩)
    go_ret3
    exact parRes_mk (a := []) (b := []) (by rw [hP.out, if_neg hn0]) rfl hb1
  subst hn0
  by_cases h0 : xs = []
  · subst h0
    replace hr := Lib.hid hr
    go_enter Tryd.func22, Tryd.ntmps22
    go_wp2_with (go_at_call 20; refine hsp.out.mono ?_; rintro e w1 ⟨v, rfl, hrd, hb1⟩; obtain ⟨a, cap, hv⟩ := hrd.len; subst hv)
    go_ret3
    exact parRes_mk (a := []) (b := []) (by rw [hP.out]; rfl) rfl hb1
  have hpos : 0 < xs.length := List.length_pos_iff.2 h0
  have hjt := Lib.hid (Nm.join_take hr (xs.length - 1))
  have hj := Lib.hid (fun (v : Value) (W : World) (hrd : RdS W v (xs.take (xs.length - 1))) => join_any (xs.take (xs.length - 1)) v W hrd (fun x hx => by have := hxm.out x (List.mem_of_mem_take hx); omega) (by rw [List.length_take]; omega))
  rw [hjt.out] at hj
  have hP2 := Lib.hid (show Nm.parent p = (Nm.upto (xs.take (xs.length - 1)), xs[xs.length - 1], 0) by rw [hP.out, if_pos rfl, if_neg h0, List.getD_eq_getElem?_getD, List.getElem?_eq_getElem (by omega)]; rfl)
  have z0 : ((xs.length : Int) == 0) = false := by rw [beq_eq_false_iff_ne]; omega
  obtain ⟨x, hx⟩ : ∃ x, xs[xs.length - 1] = x := ⟨_, rfl⟩
  obtain ⟨up, hup⟩ : ∃ up, Nm.upto (xs.take (xs.length - 1)) = up := ⟨_, rfl⟩
  rw [hup] at hj
  replace hx := Lib.hid hx
  replace hup := Lib.hid hup
  replace hr := Lib.hid hr
  replace h0 := Lib.hid h0
  unfold JoinRes at hj
  simp only at hj
  go_enter Tryd.func22, Tryd.ntmps22
  go_wp2_with (go_at_call 20; refine hsp.out.mono ?_; (rintro e w1 ⟨v, rfl, hrd, hb1⟩; replace hrd : RdS w1 v xs := hrd; obtain ⟨b, o, cap, hv, hcap, hbk, hcell⟩ := hrd.at h0.out; subst hv; replace hrd := Lib.hid hrd; have c1 : (0 : Int) ≤ (xs.length : Int) - 1 := (by omega); have c2 : (xs.length : Int) - 1 ≤ cap := (by omega); replace hcell := Lib.hid (hcell (xs.length - 1) (by omega))))
  refine (hj.out _ _ (hrd.out.take (xs.length - 1) _ (by omega) (by omega))).mono ?_
  rintro e w2 ⟨rfl, hb2⟩
  have hcell2 : w2.cell? ⟨b, o + (xs.length - 1), none⟩ = some (.string (S x)) := by
    have := cell_below hcell.out hb2
    rw [hx.out] at this; exact this
  go_wp2
  go_quiet (fail)
  go_wp2
  go_ret3
  exact parRes_mk (a := up) (b := x) (by rw [hP2.out, hup.out, hx.out]) rfl ((hb1.trans (hb2.mono hb1.size)).trans ((below_drewN _ _).mono (Nat.le_trans hb1.size hb2.size)))
end Go.Proofs.YtopfkbpjfcdjnaaDoor
