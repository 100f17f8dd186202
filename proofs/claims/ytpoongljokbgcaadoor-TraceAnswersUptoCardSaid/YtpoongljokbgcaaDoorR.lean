import Derived.Test.YtpoongljokbgcaaDoorQ
namespace Go.Proofs.YtpoongljokbgcaaDoor
open Go.RowKit
namespace Tr
def print (o : Opr) : List UInt8 × Int :=
  if word o.kind = [] then ([], 231) else if o.kind = 7 ∧ 4096 < o.data.length then ([], 3) else (Lib.join (word o.kind :: fields o) [32], 0)
end Tr
theorem fields_len (o : Opr) : (Tr.fields o).length ≤ 3 := by
  unfold Tr.fields
  split
  · simp
  split
  · simp
  split
  · simp
  split
  · simp
  split
  · simp
  · simp
theorem texts_one (xs : List (List UInt8)) : ∀ u ∈ xs.map strV, u.oneCell' = true := by
  intro u hu; simp only [List.mem_map] at hu; obtain ⟨b, _, rfl⟩ := hu; rfl
theorem infoStr : (Tryd.prog.info? 9).map (fun i => (i.zero, i.size, i.bytes)) = some (some (.string ⟨#[]⟩), 1, 16) := by kernel_rfl
theorem join_S (W : World) (v : Value) (xs : List (List UInt8)) (c : UInt8) (h : RdS W v xs) (hN : xs.length ≤ 140737488355328) (hl : (Lib.join xs [c]).length ≤ 140737488355328) :
    Calls Tryd.prog 45 #[v, .string ⟨#[c]⟩] W (TextBelow (Lib.join xs [c]) W) := by
  have hd : ∀ xs : List (List UInt8), (xs.map S).map (·.data.toList) = xs := fun xs => by rw [List.map_map]; exact (List.map_congr_left fun l _ => rfl).trans (List.map_id _)
  by_cases hx : xs = []
  · subst hx
    obtain ⟨a, cap, rfl⟩ := h.len
    exact (Tryd.strings_Join_none a cap _ W).mono fun e w' ⟨he, hw⟩ => ⟨by rw [he]; rfl, hw ▸ Below.refl _ _⟩
  · obtain ⟨b, o, cap, rfl, hc, hb, hcell⟩ := h.at hx
    have := Tryd.strings_Join b o cap (xs.map S) (S [c]) W (fun j x hj => by
      rw [List.getElem?_map] at hj
      obtain ⟨l, hl, rfl⟩ := Option.map_eq_some_iff.1 hj
      obtain ⟨hj', rfl⟩ := List.getElem?_eq_some_iff.1 hl
      exact hcell j hj') hb (by simpa using hN) (by simpa using hc) (by rw [hd]; exact hl)
    rw [hd, List.length_map] at this
    exact this
theorem word_nil (k : Int) : Tr.word k = [] ↔ ¬ (1 ≤ k ∧ k ≤ 13) := by
  unfold Tr.word
  by_cases h : 1 ≤ k ∧ k ≤ 13
  · rw [if_pos h]
    simp only [h, and_self, not_true, iff_false]
    obtain ⟨j, hj, hj2⟩ : ∃ j, (k - 1).toNat = j ∧ j < 13 := ⟨_, rfl, by omega⟩
    rw [hj]
    have : ∀ j, j < 13 → Tr.wds.getD j [] ≠ [] := by decide
    exact this j hj2
  · simp [h]
def TextNum (r : List UInt8 × Int) (w : World) (e : Ending) (w' : World) : Prop := e = .returned (.tuple #[.string (S r.1), .int .i64 r.2]) ∧ Below w.heap.size w w'
set_option maxRecDepth 100000 in
set_option maxHeartbeats 4000000 in
theorem print_any (o : Opr) (dv : Value) (w : World) (hG : Gl w) (hk : o.ok) (hp : 3 * o.path.length ≤ 140737488355328) (ht : o.kind = 3 ∨ o.kind = 6 → 3 * o.dest.length ≤ 140737488355328)
    (hr : RdB w dv o.data) (hj : (o.kind = 7 → ¬ 4096 < o.data.length) → (Lib.join (Tr.word o.kind :: Tr.fields o) [32]).length ≤ 140737488355328) :
    Calls Tryd.prog 19 #[.agg #[.int .i64 o.kind, .string (S o.path), .string (S o.dest), .int .i64 o.off, .int .i64 o.len, dv]] w (TextNum (Tr.print o) w) := by
  obtain ⟨i0, hi0, hz0, hz1, hz2⟩ := info_parts infoStr
  have hf := fun W hd hr => fields_any o dv W hk hp ht hd hr
  have hk1 : in64 o.kind := hk.1
  replace hf := Lib.hid hf
  clear ht hk
  obtain ⟨k, p, t, f, n, l⟩ := o
  dsimp only at hr hj hk1
  obtain ⟨hk1, hk2⟩ := hk1
  replace hk1 := Lib.hid hk1
  replace hk2 := Lib.hid hk2
  dsimp only
  have hl : ∃ a cap, dv = .slice a l.length cap := hr.len
  obtain ⟨av, cap, rfl⟩ := hl
  replace hj := Lib.hid hj
  replace hG := Lib.hid hG
  have hb0 : Below w.heap.size w (w.alloc (.cells #[.int .i64 k, .string (S p), .string (S t), .int .i64 f, .int .i64 n, .slice av l.length cap] 44)) := (Below.refl _ _).alloc (Nat.le_refl _) _
  replace hb0 := Lib.hid hb0
  go_enter Tryd.func19, Tryd.ntmps19
  go_wp2_with fail
  refine (word_any k _ (hG.out.below hb0.out) hk1.out hk2.out).mono ?_
  rintro e w1 ⟨rfl, hb1⟩
  have c0 : w1.cell? ⟨w.heap.size, 0, none⟩ = some (.int .i64 k) := by rw [hb1.cell (p := ⟨w.heap.size, 0, none⟩) (by simp)]; simp
  have c1 : w1.cell? ⟨w.heap.size, 1, none⟩ = some (.string (S p)) := by rw [hb1.cell (p := ⟨w.heap.size, 1, none⟩) (by simp)]; simp
  have c2 : w1.cell? ⟨w.heap.size, 2, none⟩ = some (.string (S t)) := by rw [hb1.cell (p := ⟨w.heap.size, 2, none⟩) (by simp)]; simp
  have c3 : w1.cell? ⟨w.heap.size, 3, none⟩ = some (.int .i64 f) := by rw [hb1.cell (p := ⟨w.heap.size, 3, none⟩) (by simp)]; simp
  have c4 : w1.cell? ⟨w.heap.size, 4, none⟩ = some (.int .i64 n) := by rw [hb1.cell (p := ⟨w.heap.size, 4, none⟩) (by simp)]; simp
  have c5 : w1.cell? ⟨w.heap.size, 5, none⟩ = some (.slice av l.length cap) := by rw [hb1.cell (p := ⟨w.heap.size, 5, none⟩) (by simp)]; simp
  have hsz : w.heap.size + 1 ≤ w1.heap.size := by have := hb1.size; simpa using this
  have hW : Below w.heap.size w w1 := hb0.out.trans (hb1.mono (by simp))
  have hr1 : RdB w1 (.slice av l.length cap) l := hr.below hW
  clear hb1 hr
  obtain ⟨x, hx⟩ : ∃ x, Tr.word k = x := ⟨_, rfl⟩
  have hpr : Tr.print ⟨k, p, t, f, n, l⟩ = if x = [] then ([], 231) else if k = 7 ∧ 4096 < l.length then ([], 3) else (Lib.join (x :: Tr.fields ⟨k, p, t, f, n, l⟩) [32], 0) := by
    unfold Tr.print; rw [hx]
  rw [hx] at hj ⊢
  replace hx := Lib.hid hx
  replace hpr := Lib.hid hpr
  by_cases hx0 : x = []
  · have hfin := Lib.hid (show Tr.print ⟨k, p, t, f, n, l⟩ = ([], 231) by rw [hpr.out, if_pos hx0])
    subst hx0
    go_wp2_with fail
    go_ret2
    exact ⟨by rw [hfin.out]; rfl, hW⟩
  have hx1 : (x == []) = false := by simpa using hx0
  by_cases h7 : k = 7 ∧ 4096 < l.length
  · have hfin := Lib.hid (show Tr.print ⟨k, p, t, f, n, l⟩ = ([], 3) by rw [hpr.out, if_neg hx0, if_pos h7])
    obtain ⟨rfl, h7⟩ := h7
    clear hx0
    go_wp2_with fail
    go_ret2
    exact ⟨by rw [hfin.out]; rfl, hW⟩
  have hfin := Lib.hid (show Tr.print ⟨k, p, t, f, n, l⟩ = (Lib.join (x :: Tr.fields ⟨k, p, t, f, n, l⟩) [32], 0) by rw [hpr.out, if_neg hx0, if_neg h7])
  have hd7 := Lib.hid (show k = 7 → 2 * l.length + 1 ≤ 140737488355328 by intro h; have : ¬ 4096 < l.length := fun h' => h7 ⟨h, h'⟩; omega)
  have hjj := Lib.hid (show (k = 7 → ¬ 4096 < l.length) from fun h h' => h7 ⟨h, h'⟩)
  obtain ⟨xs, hxs⟩ : ∃ xs, Tr.fields ⟨k, p, t, f, n, l⟩ = xs := ⟨_, rfl⟩
  have hxl : xs.length ≤ 3 := by rw [← hxs]; exact fields_len _
  rw [hxs] at hfin hj hf
  replace hxs := Lib.hid hxs
  clear hx0
  have dN : ∀ o v, w1.cell? ⟨w.heap.size, o, none⟩ = some v → (w1.alloc (.cells #[.string (S x)] 9)).cell? ⟨w.heap.size, o, none⟩ = some v := fun o v h => by
    rw [World.cell?_alloc_lt _ _ _ (by simp; omega)]; exact h
  have d0 := dN _ _ c0
  have d1 := dN _ _ c1
  have d2 := dN _ _ c2
  have d3 := dN _ _ c3
  have d4 := dN _ _ c4
  have d5 := dN _ _ c5
  clear dN
  have hr2 : RdB (w1.alloc (.cells #[.string (S x)] 9)) (.slice av l.length cap) l := hr1.below ((Below.refl _ _).alloc (Nat.le_refl _) _)
  have hC := Lib.hid (hf.out _ hd7.out hr2)
  have hBx : Below w.heap.size w (w1.alloc (.cells #[.string (S x)] 9)) := hW.alloc (by omega) _
  have hjl := Lib.hid (hj.out hjj.out)
  by_cases k7 : k = 7
  · have h40 : ¬ 4096 < l.length := hjj.out k7
    subst k7
    clear h7
    go_wp2_with fail
    refine hC.out.mono ?_
    rintro e w2 ⟨v, rfl, hown, hb2⟩
    have hL := own_below (own_lit w1 w.heap.size 9 (.string (S x)) (by omega)) hb2
    have hzz : w.heap.size + 1 < w2.heap.size := by have := hb2.size; simp at this; omega
    have hB2 : Below w.heap.size w w2 := hBx.trans (hb2.mono (by simp; omega))
    go_wp2_with (at_builtin; go_must (refine wpList_append_both rfl _ _ 58 rfl w.heap.size 9 i0 (.string ⟨#[]⟩) 1 16 Tryd.underlying58 hi0 hz0 hz1 hz2 rfl (by decide) _ 1 [.string (S x)] rfl hL _ _ xs.length (xs.map strV) rfl hown (texts_one xs) (by unfold maxLen; omega) (by omega) (by omega) ?_); intro v' w3 hown3 hgrow)
    rw [Nat.add_comm] at hown3
    have hB3 : Below w.heap.size w w3 := hB2.grown hgrow (by omega) (fun k hk => (hL.lt k hk).1)
    refine (join_S w3 v' (x :: xs) 32 (Rd.of_own (B := w.heap.size) (e := 9) (xs := x :: xs) hown3) (by simp; omega) hjl.out).mono ?_
    rintro e w4 ⟨rfl, hb4⟩
    go_wp2_with fail
    go_ret2
    exact ⟨by rw [hfin.out]; rfl, hB3.trans (hb4.mono hB3.size)⟩
  · have k7' : (k == 7) = false := beq_eq_false_iff_ne.2 k7
    clear h7 k7
    go_wp2_with fail
    refine hC.out.mono ?_
    rintro e w2 ⟨v, rfl, hown, hb2⟩
    have hL := own_below (own_lit w1 w.heap.size 9 (.string (S x)) (by omega)) hb2
    have hzz : w.heap.size + 1 < w2.heap.size := by have := hb2.size; simp at this; omega
    have hB2 : Below w.heap.size w w2 := hBx.trans (hb2.mono (by simp; omega))
    go_wp2_with (at_builtin; go_must (refine wpList_append_both rfl _ _ 58 rfl w.heap.size 9 i0 (.string ⟨#[]⟩) 1 16 Tryd.underlying58 hi0 hz0 hz1 hz2 rfl (by decide) _ 1 [.string (S x)] rfl hL _ _ xs.length (xs.map strV) rfl hown (texts_one xs) (by unfold maxLen; omega) (by omega) (by omega) ?_); intro v' w3 hown3 hgrow)
    rw [Nat.add_comm] at hown3
    have hB3 : Below w.heap.size w w3 := hB2.grown hgrow (by omega) (fun k hk => (hL.lt k hk).1)
    refine (join_S w3 v' (x :: xs) 32 (Rd.of_own (B := w.heap.size) (e := 9) (xs := x :: xs) hown3) (by simp; omega) hjl.out).mono ?_
    rintro e w4 ⟨rfl, hb4⟩
    go_wp2_with fail
    go_ret2
    exact ⟨by rw [hfin.out]; rfl, hB3.trans (hb4.mono hB3.size)⟩
end Go.Proofs.YtpoongljokbgcaaDoor
