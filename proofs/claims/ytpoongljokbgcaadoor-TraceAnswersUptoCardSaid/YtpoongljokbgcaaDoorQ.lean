import Derived.Test.YtpoongljokbgcaaDoorN
namespace Go.Proofs.YtpoongljokbgcaaDoor
open Go.RowKit
structure Opr where
  kind : Int
  path : List UInt8
  dest : List UInt8
  off : Int
  len : Int
  data : List UInt8
def in64 (n : Int) : Prop := -9223372036854775808 ≤ n ∧ n ≤ 9223372036854775807
def Opr.ok (o : Opr) : Prop := in64 o.kind ∧ in64 o.off ∧ in64 o.len
namespace Tr
def fields (o : Opr) : List (List UInt8) :=
  if o.kind = 3 ∨ o.kind = 6 then [quo o.path, quo o.dest]
  else if o.kind = 7 then [quo o.path, Lib.itoa o.off, hexes o.data]
  else if o.kind = 8 then [quo o.path, Lib.itoa o.len]
  else if o.kind = 9 then [quo o.path, Lib.itoa o.off, Lib.itoa o.len]
  else if o.kind = 13 then []
  else [quo o.path]
end Tr
/-- A slice of texts of the call's own. -/
def OwnTexts (xs : List (List UInt8)) (w : World) (e : Ending) (w' : World) : Prop :=
  ∃ v, e = .returned v ∧ w'.ownsRow w.heap.size 9 1 v xs.length (xs.map strV) ∧ Below w.heap.size w w'
theorem own_lits (w : World) (base : Nat) (e : TypeId) (xs : List Value) (hB : base ≤ w.heap.size) (hl : xs.length ≤ maxLen) :
    (w.alloc (.cells xs.toArray e)).ownsRow base e 1 (.slice (some ⟨w.heap.size, 0, none⟩) xs.length xs.length) xs.length xs :=
  ⟨by simp, .inr ⟨w.heap.size, xs.length, xs.toArray, rfl, hB, heap_alloc_new w _, Nat.le_refl _, hl, by simp, by simp⟩⟩
set_option maxRecDepth 100000 in
set_option maxHeartbeats 4000000 in
theorem fields_any (o : Opr) (dv : Value) (w : World) (hk : o.ok) (hp : 3 * o.path.length ≤ 140737488355328) (ht : o.kind = 3 ∨ o.kind = 6 → 3 * o.dest.length ≤ 140737488355328)
    (hd : o.kind = 7 → 2 * o.data.length + 1 ≤ 140737488355328) (hr : RdB w dv o.data) :
    Calls Tryd.prog 53 #[.agg #[.int .i64 o.kind, .string (S o.path), .string (S o.dest), .int .i64 o.off, .int .i64 o.len, dv]] w (OwnTexts (Tr.fields o) w) := by
  obtain ⟨k, p, t, f, n, l⟩ := o
  dsimp only at *
  obtain ⟨hk1, ⟨hf1, hf2⟩, ⟨hn1, hn2⟩⟩ := hk
  dsimp only at hf1 hf2 hn1 hn2
  replace hf1 := Lib.hid hf1
  replace hf2 := Lib.hid hf2
  replace hn1 := Lib.hid hn1
  replace hn2 := Lib.hid hn2
  replace hk1 := Lib.hid hk1
  go_enter Tryd.func53, Tryd.ntmps53
  go_wp2_with fail
  refine (quote_any p _ hp).mono ?_
  rintro e w1 ⟨rfl, hb1⟩
  have c0 : w1.cell? ⟨w.heap.size, 0, none⟩ = some (.int .i64 k) := by rw [hb1.cell (p := ⟨w.heap.size, 0, none⟩) (by simp)]; simp
  have c2 : w1.cell? ⟨w.heap.size, 2, none⟩ = some (.string (S t)) := by rw [hb1.cell (p := ⟨w.heap.size, 2, none⟩) (by simp)]; simp
  have c3 : w1.cell? ⟨w.heap.size, 3, none⟩ = some (.int .i64 f) := by rw [hb1.cell (p := ⟨w.heap.size, 3, none⟩) (by simp)]; simp
  have c4 : w1.cell? ⟨w.heap.size, 4, none⟩ = some (.int .i64 n) := by rw [hb1.cell (p := ⟨w.heap.size, 4, none⟩) (by simp)]; simp
  have c5 : w1.cell? ⟨w.heap.size, 5, none⟩ = some dv := by rw [hb1.cell (p := ⟨w.heap.size, 5, none⟩) (by simp)]; simp
  have hsz : w.heap.size + 1 ≤ w1.heap.size := by have := hb1.size; simpa using this
  have hW : Below w.heap.size w w1 := ((Below.refl _ w).alloc (Nat.le_refl _) _).trans (hb1.mono (by simp))
  have hr1 : RdB w1 dv l := hr.below hW
  clear hb1 hr
  obtain ⟨q, hq⟩ : ∃ q, Tr.quo p = q := ⟨_, rfl⟩
  have hfd : Tr.fields ⟨k, p, t, f, n, l⟩ = if k = 3 ∨ k = 6 then [q, Tr.quo t] else if k = 7 then [q, Lib.itoa f, Tr.hexes l] else if k = 8 then [q, Lib.itoa n] else if k = 9 then [q, Lib.itoa f, Lib.itoa n] else if k = 13 then [] else [q] := by
    unfold Tr.fields; simp only [hq]
  rw [hq]
  replace hq := Lib.hid hq
  by_cases k9 : k = 9
  · subst k9
    have hfin := Lib.hid (show Tr.fields ⟨9, p, t, f, n, l⟩ = [q, Lib.itoa f, Lib.itoa n] by rw [hfd]; rfl)
    clear hfd hd ht
    go_wp2_with fail
    go_region_held3 (fun w' => w'.cell? ⟨w.heap.size, 3, none⟩ = some (.int .i64 f) ∧ w'.cell? ⟨w.heap.size, 4, none⟩ = some (.int .i64 n) ∧ RdB w' dv l ∧ w.heap.size + 1 ≤ w'.heap.size ∧ Below w.heap.size w w')
      (first | (go_split_ands; refine ⟨?_, ?_, ?_, ?_, ?_⟩ <;> first | assumption | (rw [World.cell?_alloc_lt _ _ _ (by simp; omega)]; assumption) | (rw [hb1.cell (by simp; omega)]; assumption) | (have := hb1.size; omega) | exact Rd.below (by assumption) (by assumption) | exact Rd.below (by assumption) ((Below.refl _ _).alloc (Nat.le_refl _) _) | exact Below.drew (by assumption) | (refine Below.alloc ?_ ?_ _ <;> first | assumption | omega) | (rw [World.size_alloc]; omega) | exact Below.trans (by assumption) (hb1.mono (by omega))) | go_keep)
      (first | (go_at_call 43; refine (num_any _ _ ?_ ?_).mono ?_; (first | exact hf1.out | exact hn1.out); (first | exact hf2.out | exact hn2.out); rintro e w2 ⟨rfl, hb1⟩))
    all_goals
      obtain ⟨_, _, _, hz, hBB⟩ := ‹_ ∧ _ ∧ _ ∧ _ ∧ _›
      rw [World.size_alloc] at hz
      go_wp2_with fail
      go_ret
      exact ⟨_, rfl, by rw [hfin.out]; exact own_lits _ w.heap.size 9 [.string (S q), .string (S (Lib.itoa f)), .string (S (Lib.itoa n))] (by omega) (by unfold maxLen; simp), hBB⟩
  by_cases k7 : k = 7
  · subst k7
    have hfin := Lib.hid (show Tr.fields ⟨7, p, t, f, n, l⟩ = [q, Lib.itoa f, Tr.hexes l] by rw [hfd]; rfl)
    have hd' : (7 : Int) = 7 → 2 * l.length + 1 ≤ 140737488355328 := hd
    replace hd' := Lib.hid (hd' rfl)
    clear hfd hd ht k9
    go_wp2_with fail
    go_region_held3 (fun w' => w'.cell? ⟨w.heap.size, 3, none⟩ = some (.int .i64 f) ∧ w'.cell? ⟨w.heap.size, 5, none⟩ = some (dv) ∧ RdB w' dv l ∧ w.heap.size + 1 ≤ w'.heap.size ∧ Below w.heap.size w w')
      (first | (go_split_ands; refine ⟨?_, ?_, ?_, ?_, ?_⟩ <;> first | assumption | (rw [World.cell?_alloc_lt _ _ _ (by simp; omega)]; assumption) | (rw [hb1.cell (by simp; omega)]; assumption) | (have := hb1.size; omega) | exact Rd.below (by assumption) (by assumption) | exact Rd.below (by assumption) ((Below.refl _ _).alloc (Nat.le_refl _) _) | exact Below.drew (by assumption) | (refine Below.alloc ?_ ?_ _ <;> first | assumption | omega) | (rw [World.size_alloc]; omega) | exact Below.trans (by assumption) (hb1.mono (by omega))) | go_keep)
      (first | (go_at_call 43; refine (num_any _ _ ?_ ?_).mono ?_; (first | exact hf1.out | exact hn1.out); (first | exact hf2.out | exact hn2.out); rintro e w2 ⟨rfl, hb1⟩) | (go_at_call 44; refine (hexes_any _ l _ ?_ hd'.out).mono ?_; (first | assumption | exact (‹_ ∧ _ ∧ RdB _ dv l ∧ _ ∧ _› : _ ∧ _ ∧ RdB _ dv l ∧ _ ∧ _).2.2.1); rintro e w2 ⟨rfl, hb1⟩))
    all_goals
      obtain ⟨_, _, _, hz, hBB⟩ := ‹_ ∧ _ ∧ _ ∧ _ ∧ _›
      rw [World.size_alloc] at hz
      go_wp2_with fail
      go_ret
      exact ⟨_, rfl, by rw [hfin.out]; exact own_lits _ w.heap.size 9 [.string (S q), .string (S (Lib.itoa f)), .string (S (Tr.hexes l))] (by omega) (by unfold maxLen; simp), hBB⟩
  clear hd
  by_cases k36 : k = 3 ∨ k = 6
  · have ht' := Lib.hid (ht k36)
    have hfin := Lib.hid (show Tr.fields ⟨k, p, t, f, n, l⟩ = [q, Tr.quo t] by rw [hfd, if_pos k36])
    clear hfd ht k7 k9
    rcases k36 with rfl | rfl
    all_goals
      go_wp2_with fail
      refine (quote_any t _ ht'.out).mono ?_
      rintro e w2 ⟨rfl, hb2⟩
      have hz := hb2.size
      have hW2 := hW.trans (hb2.mono (by omega))
      go_wp2_with fail
      go_ret
      exact ⟨_, rfl, by rw [hfin.out]; exact own_lits _ w.heap.size 9 [.string (S q), .string (S (Tr.quo t))] (by omega) (by unfold maxLen; simp), hW2.alloc (by omega) _⟩
  clear ht
  by_cases k8 : k = 8
  · subst k8
    have hfin := Lib.hid (show Tr.fields ⟨8, p, t, f, n, l⟩ = [q, Lib.itoa n] by rw [hfd]; rfl)
    clear hfd k36 k7 k9
    go_wp2_with fail
    refine (num_any n _ hn1.out hn2.out).mono ?_
    rintro e w2 ⟨rfl, hb2⟩
    have hz := hb2.size
    have hW2 := hW.trans (hb2.mono (by omega))
    go_wp2_with fail
    go_ret
    exact ⟨_, rfl, by rw [hfin.out]; exact own_lits _ w.heap.size 9 [.string (S q), .string (S (Lib.itoa n))] (by omega) (by unfold maxLen; simp), hW2.alloc (by omega) _⟩
  rw [if_neg k36, if_neg k7, if_neg k8, if_neg k9] at hfd
  have k3 : (k == 3) = false := beq_eq_false_iff_ne.2 fun h => k36 (.inl h)
  have k6 : (k == 6) = false := beq_eq_false_iff_ne.2 fun h => k36 (.inr h)
  have k7' : (k == 7) = false := beq_eq_false_iff_ne.2 k7
  have k8' : (k == 8) = false := beq_eq_false_iff_ne.2 k8
  have k9' : (k == 9) = false := beq_eq_false_iff_ne.2 k9
  clear k36 k7 k8 k9
  by_cases k13 : k = 13
  · have k13' : (k == 13) = true := beq_iff_eq.2 k13
    rw [if_pos k13] at hfd
    replace hfd := Lib.hid hfd
    clear k13
    go_wp2_with fail
    go_ret
    exact ⟨_, rfl, by rw [hfd.out]; exact World.ownsRow_nil _ _ _ _, hW⟩
  · have k13' : (k == 13) = false := beq_eq_false_iff_ne.2 k13
    rw [if_neg k13] at hfd
    replace hfd := Lib.hid hfd
    clear k13
    go_wp2_with fail
    go_ret
    exact ⟨_, rfl, by rw [hfd.out]; exact own_lits _ w.heap.size 9 [.string (S q)] (by omega) (by unfold maxLen; simp), hW.alloc (by omega) _⟩
end Go.Proofs.YtpoongljokbgcaaDoor
