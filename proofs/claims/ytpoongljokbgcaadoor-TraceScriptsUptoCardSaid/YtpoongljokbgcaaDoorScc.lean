import Derived.Test.YtpoongljokbgcaaDoorScb
import Derived.Test.YtpoongljokbgcaaDoorSca
import Derived.Lib.SplitLaws
namespace Go.Proofs.YtpoongljokbgcaaDoor
open Go.RowKit
namespace Tr
def isDig (c : UInt8) : Bool := decide (48 ≤ c.toNat) && decide (c.toNat ≤ 57)
def uval (l : List UInt8) : Nat := l.foldl (fun u c => 10 * u + (c.toNat - 48)) 0
/-- The number of decimal digits, and whether the text is the number's own. -/
def pnum (s : List UInt8) : Int × Bool :=
  let d := Lib.trimPrefix s [45]
  if d.all isDig && decide (d.length ≤ 19) then
    let n := wrap64 (uval d)
    let m := if Lib.hasPrefix s [45] then wrap64 (-n) else n
    (m, Lib.itoa m == s)
  else (0, false)
end Tr
theorem uval_take (l : List UInt8) (k : Nat) (h : k < l.length) : Tr.uval (l.take (k + 1)) = 10 * Tr.uval (l.take k) + (l[k].toNat - 48) := by
  unfold Tr.uval; rw [List.take_succ_eq_append_getElem h, List.foldl_append]; rfl
theorem all_take (l : List UInt8) (k : Nat) (h : k < l.length) : (l.take (k + 1)).all Tr.isDig = ((l.take k).all Tr.isDig && Tr.isDig l[k]) := by
  rw [List.take_succ_eq_append_getElem h, List.all_append]; simp
theorem all_no (l : List UInt8) (k : Nat) (h : k < l.length) (hc : Tr.isDig l[k] = false) : l.all Tr.isDig = false := by
  rw [List.all_eq_false]; exact ⟨l[k], List.getElem_mem h, by rw [hc]; decide⟩
theorem uval_lt (l : List UInt8) (h : l.all Tr.isDig = true) : Tr.uval l < 10 ^ l.length := by
  unfold Tr.uval
  suffices ∀ (l : List UInt8) (u : Nat) (k : Nat), l.all Tr.isDig = true → u < 10 ^ k → l.foldl (fun u c => 10 * u + (c.toNat - 48)) u < 10 ^ (k + l.length) by
    simpa using this l 0 0 h (by simp)
  intro l
  induction l with
  | nil => intro u k _ hu; simpa using hu
  | cons c l ih =>
    intro u k hl hu
    simp only [List.all_cons, Bool.and_eq_true] at hl
    have hc := hl.1
    unfold Tr.isDig at hc
    simp only [Bool.and_eq_true, decide_eq_true_eq] at hc
    have := ih (10 * u + (c.toNat - 48)) (k + 1) hl.2 (by rw [Nat.pow_succ]; omega)
    rw [List.foldl_cons, List.length_cons, show k + (l.length + 1) = k + 1 + l.length by omega]
    exact this
theorem uval_bound (l : List UInt8) (h : l.all Tr.isDig = true) (hl : l.length ≤ 18) : Tr.uval l < 1000000000000000000 :=
  Nat.lt_of_lt_of_le (uval_lt l h) (Nat.pow_le_pow_right (by decide) hl : 10 ^ l.length ≤ 10 ^ 18)
/-- What parseNum answers. -/
def NumBool (r : Int × Bool) (w : World) (e : Ending) (w' : World) : Prop := e = .returned (.tuple #[.int .i64 r.1, .bool r.2]) ∧ Below w.heap.size w w'
set_option maxRecDepth 100000 in
set_option maxHeartbeats 1000000 in
theorem parseNum_any (s : List UInt8) (w : World) (hs : s.length ≤ 140737488355328) :
    Calls Tryd.prog 47 #[.string (S s)] w (NumBool (Tr.pnum s) w) := by
  obtain ⟨d, hd⟩ : ∃ d, Lib.trimPrefix s [45] = d := ⟨_, rfl⟩
  have hdl : d.length ≤ s.length := by rw [← hd]; exact Lib.trimPrefix_le _ _
  have hsl : d.length ≤ 140737488355328 := by omega
  clear hdl
  obtain ⟨g, hg⟩ : ∃ g, Lib.hasPrefix s [45] = g := ⟨_, rfl⟩
  have hp : Tr.pnum s = (if d.all Tr.isDig && decide (d.length ≤ 19) then (if g then wrap64 (-wrap64 (Tr.uval d)) else wrap64 (Tr.uval d), Lib.itoa (if g then wrap64 (-wrap64 (Tr.uval d)) else wrap64 (Tr.uval d)) == s) else (0, false)) := by
    unfold Tr.pnum; rw [hd, hg]
  replace hd := Lib.hid hd
  replace hg := Lib.hid hg
  replace hp := Lib.hid hp
  go_enter Tryd.func47, Tryd.ntmps47
  go_wp2_with fail
  refine (cutPrefix_S s [45] _).mono ?_
  rw [hd.out, hg.out]
  rintro e w0 ⟨rfl, rfl⟩
  go_wp2_with fail
  go_loop [6, 17] (fun u k => ∃ i : Nat, i ≤ d.length ∧ i ≤ 19 ∧ k = .int .i64 i ∧ u = .int .u64 (Tr.uval (d.take i)) ∧ (d.take i).all Tr.isDig = true) (fun _ k => d.length - (intOf k).toNat)
  case atStart => exact ⟨0, Nat.zero_le _, by omega, rfl, rfl, rfl⟩
  case round =>
    obtain ⟨i, hi, hi19, rfl, rfl, hall⟩ := hrel
    by_cases hlt : i < d.length
    · have hut := Lib.hid (uval_take d i hlt)
      have hat := Lib.hid (all_take d i hlt)
      obtain ⟨c, hc⟩ : ∃ c, d[i] = c := ⟨_, rfl⟩
      rw [hc] at hut hat
      have hcn : c.toNat < 256 := c.toNat_lt
      by_cases h18 : i ≤ 18
      · obtain ⟨U, hU⟩ : ∃ U, Tr.uval (d.take i) = U := ⟨_, rfl⟩
        have hUb : U < 1000000000000000000 := by rw [← hU]; exact uval_bound _ hall (by rw [List.length_take]; omega)
        rw [hU] at hut ⊢
        replace hU := Lib.hid hU
        have hall' := Lib.hid hall
        clear hall
        by_cases hdig : 48 ≤ (c.toNat : Int) ∧ (c.toNat : Int) ≤ 57
        · obtain ⟨hd1, hd2⟩ := hdig
          have hid : Tr.isDig c = true := by unfold Tr.isDig; simp; omega
          replace hid := Lib.hid hid
          go_wp2_with fail
          go_round
          case rel => exact ⟨i + 1, by omega, by omega, by go_num, by rw [hut.out]; congr 1; omega, by rw [hat.out, hall'.out, hid.out]; rfl⟩
          case measure => simp [intOf]; omega
        · have hno := Lib.hid (show d.all Tr.isDig = false by
            refine all_no d i hlt ?_
            rw [hc]; unfold Tr.isDig
            rw [Bool.and_eq_false_iff, decide_eq_false_iff_not, decide_eq_false_iff_not]; omega)
          have hfin := Lib.hid (show Tr.pnum s = (0, false) by rw [hp.out, hno.out]; rfl)
          by_cases h1 : (c.toNat : Int) < 48
          · go_wp2_with fail
            go_ret2
            exact ⟨by rw [hfin.out]; rfl, Below.refl _ _⟩
          · have h2 : 57 < (c.toNat : Int) := by omega
            go_wp2_with fail
            go_ret2
            exact ⟨by rw [hfin.out]; rfl, Below.refl _ _⟩
      · obtain ⟨U, hU⟩ : ∃ U, Tr.uval (d.take i) = U := ⟨_, rfl⟩
        rw [hU]
        have hfin := Lib.hid (show Tr.pnum s = (0, false) by
          rw [hp.out, show decide (d.length ≤ 19) = false by rw [decide_eq_false_iff_not]; omega, Bool.and_false]; rfl)
        clear hU hall hut hat
        by_cases h1 : (c.toNat : Int) < 48
        · go_wp2_with fail
          go_ret2
          exact ⟨by rw [hfin.out]; rfl, Below.refl _ _⟩
        · by_cases h2 : 57 < (c.toNat : Int)
          · go_wp2_with fail
            go_ret2
            exact ⟨by rw [hfin.out]; rfl, Below.refl _ _⟩
          · go_wp2_with fail
            go_ret2
            exact ⟨by rw [hfin.out]; rfl, Below.refl _ _⟩
    · have hi' : i = d.length := by omega
      rw [hi', List.take_length] at hall
      have hfin := Lib.hid (show Tr.pnum s = (if g then wrap64 (-wrap64 (Tr.uval d)) else wrap64 (Tr.uval d), Lib.itoa (if g then wrap64 (-wrap64 (Tr.uval d)) else wrap64 (Tr.uval d)) == s) by
        rw [hp.out, hall, show decide (d.length ≤ 19) = true by rw [decide_eq_true_eq]; omega]; rfl)
      subst hi'
      rw [List.take_length]
      obtain ⟨U, hU⟩ : ∃ U, Tr.uval d = U := ⟨_, rfl⟩
      rw [hU] at hfin ⊢
      clear hU hall hi
      obtain ⟨N, hN⟩ : ∃ N, wrap64 (U : Int) = N := ⟨_, rfl⟩
      rw [hN] at hfin
      have hN1 : -9223372036854775808 ≤ N ∧ N ≤ 9223372036854775807 := by rw [← hN]; unfold wrap64; omega
      cases g with
      | false =>
        simp only [Bool.false_eq_true, if_false] at hfin
        replace hN1 := Lib.hid hN1
        go_wp2_with fail
        refine (num_any N _ hN1.out.1 hN1.out.2).mono ?_
        rintro e w1 ⟨rfl, hb⟩
        go_wp2_with fail
        go_ret2
        exact ⟨by rw [hfin.out]; rfl, hb⟩
      | true =>
        simp only [if_true] at hfin
        obtain ⟨M, hM⟩ : ∃ M, wrap64 (-N) = M := ⟨_, rfl⟩
        rw [hM] at hfin
        have hM1 : -9223372036854775808 ≤ M ∧ M ≤ 9223372036854775807 := by rw [← hM]; unfold wrap64; omega
        replace hN1 := Lib.hid hN1
        replace hM1 := Lib.hid hM1
        go_wp2_with fail
        refine (num_any M _ hM1.out.1 hM1.out.2).mono ?_
        rintro e w1 ⟨rfl, hb⟩
        go_wp2_with fail
        go_ret2
        exact ⟨by rw [hfin.out]; rfl, hb⟩
end Go.Proofs.YtpoongljokbgcaaDoor
namespace Go.Proofs.YtpoongljokbgcaaDoor
namespace Tr
/-- what stands between the signs c -/
def spl (c : UInt8) : List UInt8 → List (List UInt8)
  | [] => [[]]
  | b :: l => if b = c then [] :: spl c l else (match spl c l with | x :: xs => (b :: x) :: xs | [] => [[b]])
theorem spl_ne (c : UInt8) (l : List UInt8) : spl c l ≠ [] := by
  cases l with
  | nil => simp [spl]
  | cons b l => unfold spl; split; · simp
                split <;> simp
theorem spl_index (c : UInt8) (l : List UInt8) : (Lib.index l [c] = -1 → spl c l = [l]) ∧ (∀ j : Nat, Lib.index l [c] = j → spl c l = l.take j :: spl c (l.drop (j + 1))) := by
  induction l with
  | nil => exact ⟨fun _ => rfl, fun j h => by rw [Lib.index] at h; simp at h⟩
  | cons b l ih =>
    by_cases h : b = c
    · subst h
      have hix : Lib.index (b :: l) [b] = 0 := by rw [Lib.index]; simp [List.isPrefixOf]
      rw [hix]
      refine ⟨fun h => by omega, fun j hj => ?_⟩
      obtain rfl : j = 0 := by omega
      simp [spl]
    · have hix : Lib.index (b :: l) [c] = if Lib.index l [c] == -1 then -1 else Lib.index l [c] + 1 := by
        rw [Lib.index]; simp [List.isPrefixOf, Ne.symm h]
      rw [hix]
      by_cases hm : Lib.index l [c] = -1
      · rw [if_pos (beq_iff_eq.2 hm)]
        refine ⟨fun _ => by unfold spl; rw [if_neg h, ih.1 hm], fun j hj => by omega⟩
      · have hge := Lib.index_ge l [c]
        rw [if_neg (fun e => hm (beq_iff_eq.1 e))]
        refine ⟨fun h => by omega, fun j hj => ?_⟩
        obtain ⟨i, rfl⟩ : ∃ i, j = i + 1 := ⟨j - 1, by omega⟩
        have := ih.2 i (by omega)
        rw [List.take_succ_cons, List.drop_succ_cons]
        rw [spl, if_neg h, this]
end Tr
theorem splitK_spl (c : UInt8) : ∀ (k : Nat) (l : List UInt8), Lib.count l [c] = k → Lib.splitK [c] 0 k l = Tr.spl c l := by
  intro k
  induction k with
  | zero =>
    intro l h
    by_cases hm : Lib.index l [c] = -1
    · rw [(Tr.spl_index c l).1 hm]; rfl
    · have hge := Lib.index_ge l [c]
      have := Lib.count_hit (s := l) (sub := [c]) (i := (Lib.index l [c]).toNat) (by simp) (by omega)
      omega
  | succ k ih =>
    intro l h
    by_cases hm : Lib.index l [c] = -1
    · have := Lib.count_miss hm; omega
    · have hge := Lib.index_ge l [c]
      obtain ⟨j, hj⟩ : ∃ j : Nat, Lib.index l [c] = j := ⟨(Lib.index l [c]).toNat, by omega⟩
      have hc := Lib.count_hit (s := l) (sub := [c]) (i := j) (by simp) hj
      rw [Lib.splitK, if_neg (fun e => hm (beq_iff_eq.1 e)), (Tr.spl_index c l).2 j hj, hj]
      simp only [Int.toNat_natCast, Nat.add_zero, List.length_cons, List.length_nil, Nat.zero_add]
      rw [ih _ (by simp at hc; omega)]
theorem splitB_spl (c : UInt8) (l : List UInt8) : (Lib.splitB (S [c]) 0 (Lib.countB (S l) (S [c])) (S l)).map (·.data.toList) = Tr.spl c l := by
  rw [Lib.splitB_data]; exact splitK_spl c _ l rfl
theorem splitB_vals (c : UInt8) (l : List UInt8) : (Lib.splitB (S [c]) 0 (Lib.countB (S l) (S [c])) (S l)).map Value.string = (Tr.spl c l).map fun x => Value.string (S x) := by
  rw [← splitB_spl, List.map_map]
  exact List.map_congr_left fun b _ => by show Value.string b = Value.string (S b.data.toList); rw [← S_of]
theorem countB_spl (c : UInt8) (l : List UInt8) : Lib.countB (S l) (S [c]) + 1 = (Tr.spl c l).length := by
  rw [← splitB_spl, List.length_map, Lib.splitB_all (S [c]) (by simp) 0 _ _ rfl]
end Go.Proofs.YtpoongljokbgcaaDoor
namespace Go.Proofs.YtpoongljokbgcaaDoor
open Go.RowKit
namespace Tr
def wds : List (List UInt8) := [[99, 114, 101, 97, 116, 101], [109, 107, 100, 105, 114], [108, 105, 110, 107], [117, 110, 108, 105, 110, 107], [114, 109, 100, 105, 114], [114, 101, 110, 97, 109, 101], [119, 114, 105, 116, 101], [116, 114, 117, 110, 99, 97, 116, 101], [114, 101, 97, 100], [115, 116, 97, 116], [114, 101, 97, 100, 100, 105, 114], [102, 115, 121, 110, 99], [115, 121, 110, 99]]
def word (k : Int) : List UInt8 := if 1 ≤ k ∧ k ≤ 13 then wds.getD (k - 1).toNat [] else []
end Tr
/-- What a call of the library's search asks of the world: its one variable. -/
def Gl (w : World) : Prop := 0 < w.heap.size ∧ ∃ m : Int, w.cell? ⟨0, 0, none⟩ = some (.int .i64 m)
theorem Gl.below {w w' : World} (h : Gl w) (hb : Below w.heap.size w w') : Gl w' := by
  obtain ⟨h0, m, hm⟩ := h
  exact ⟨Nat.lt_of_lt_of_le h0 hb.size, m, by rw [hb.cell (p := ⟨0, 0, none⟩) h0]; exact hm⟩
theorem Gl.drewN {w : World} (h : Gl w) (n : Nat) : Gl (w.drewN n) := h
/-- A slice of texts, all of it new. -/
def NewTexts (xs : List (List UInt8)) (w : World) (e : Ending) (w' : World) : Prop :=
  e = .returned (.slice (some ⟨w.heap.size, 0, none⟩) xs.length xs.length) ∧ w' = w.alloc (.cells (xs.map strV).toArray 9)
theorem split_S (c : UInt8) (s : List UInt8) (w : World) (hG : Gl w) (hs : s.length < 4294967281) :
    Calls Tryd.prog 46 #[.string (S s), .string ⟨#[c]⟩] w (NewTexts (Tr.spl c s) w) := by
  obtain ⟨_, m, hm⟩ := hG
  refine (Tryd.strings_Split (S s) (S [c]) m w (by simpa using hs) hm (by simp)).mono ?_
  rintro e w' ⟨he, hw⟩
  refine ⟨?_, ?_⟩
  · rw [he, countB_spl]
  · rw [hw, splitB_vals]; rfl
theorem newTexts_own (w : World) (xs : List (List UInt8)) (hl : xs.length ≤ maxLen) : (w.alloc (.cells (xs.map strV).toArray 9)).ownsRow w.heap.size 9 1 (.slice (some ⟨w.heap.size, 0, none⟩) xs.length xs.length) xs.length (xs.map strV) :=
  ⟨by simp, .inr ⟨w.heap.size, xs.length, (xs.map strV).toArray, rfl, Nat.le_refl _, heap_alloc_new w _, Nat.le_refl _, hl, by simp, by simp [List.take_of_length_le]⟩⟩
theorem words_split : Tr.spl 32 [99, 114, 101, 97, 116, 101, 32, 109, 107, 100, 105, 114, 32, 108, 105, 110, 107, 32, 117, 110, 108, 105, 110, 107, 32, 114, 109, 100, 105, 114, 32, 114, 101, 110, 97, 109, 101, 32, 119, 114, 105, 116, 101, 32, 116, 114, 117, 110, 99, 97, 116, 101, 32, 114, 101, 97, 100, 32, 115, 116, 97, 116, 32, 114, 101, 97, 100, 100, 105, 114, 32, 102, 115, 121, 110, 99, 32, 115, 121, 110, 99] = Tr.wds := by decide
theorem words_call (w : World) (hG : Gl w) :
    Calls Tryd.prog 46 #[.string ⟨([99, 114, 101, 97, 116, 101, 32, 109, 107, 100, 105, 114, 32, 108, 105, 110, 107, 32, 117, 110, 108, 105, 110, 107, 32, 114, 109, 100, 105, 114, 32, 114, 101, 110, 97, 109, 101, 32, 119, 114].append [105, 116, 101, 32, 116, 114, 117, 110, 99, 97, 116, 101, 32, 114, 101, 97, 100, 32, 115, 116, 97, 116, 32, 114, 101, 97, 100, 100, 105, 114, 32, 102, 115, 121, 110, 99, 32, 115, 121, 110, 99]).toArray⟩, .string ⟨#[32]⟩] w (NewTexts Tr.wds w) := by
  have h := split_S 32 [99, 114, 101, 97, 116, 101, 32, 109, 107, 100, 105, 114, 32, 108, 105, 110, 107, 32, 117, 110, 108, 105, 110, 107, 32, 114, 109, 100, 105, 114, 32, 114, 101, 110, 97, 109, 101, 32, 119, 114, 105, 116, 101, 32, 116, 114, 117, 110, 99, 97, 116, 101, 32, 114, 101, 97, 100, 32, 115, 116, 97, 116, 32, 114, 101, 97, 100, 100, 105, 114, 32, 102, 115, 121, 110, 99, 32, 115, 121, 110, 99] w hG (by decide)
  rw [words_split] at h
  exact h
theorem cell_texts (w : World) (xs : List (List UInt8)) (j : Nat) (hj : j < xs.length) : (w.alloc (.cells (xs.map strV).toArray 9)).cell? ⟨w.heap.size, j, none⟩ = some (.string (S xs[j])) := by
  rw [World.cell?_alloc_at _ _ _ _ (by simp)]
  simp [hj, strV]
set_option maxRecDepth 100000 in
set_option maxHeartbeats 1000000 in
theorem word_any (k : Int) (w : World) (hG : Gl w) (h0 : -9223372036854775808 ≤ k) (h1 : k ≤ 9223372036854775807) :
    Calls Tryd.prog 52 #[.int .i64 k] w (TextBelow (Tr.word k) w) := by
  go_enter Tryd.func52, Tryd.ntmps52
  go_wp2_with fail
  refine (words_call w hG).mono ?_
  rintro e w' ⟨rfl, rfl⟩
  obtain ⟨W, hW⟩ : ∃ W, w.alloc (.cells (Tr.wds.map strV).toArray 9) = W := ⟨_, rfl⟩
  have hb : Below w.heap.size w W := by rw [← hW]; exact (Below.refl _ _).alloc (Nat.le_refl _) _
  have hl : Tr.wds.length = 13 := rfl
  by_cases hk : 1 ≤ k ∧ k ≤ 13
  · obtain ⟨hk1, hk2⟩ := hk
    have hc := cell_texts w Tr.wds (k.toNat - 1) (by omega)
    rw [hW] at hc ⊢
    have hfin := Lib.hid (show Tr.word k = Tr.wds[k.toNat - 1] by
      unfold Tr.word; rw [if_pos ⟨hk1, hk2⟩, show (k - 1).toNat = k.toNat - 1 by omega, List.getD_eq_getElem?_getD, List.getElem?_eq_getElem (by omega)]; rfl)
    rw [hl]
    replace hW := Lib.hid hW
    generalize hx : Tr.wds[k.toNat - 1] = x at *
    go_wp2_with fail
    go_ret
    exact ⟨by rw [hfin.out]; rfl, hb⟩
  · rw [hW]
    have hfin := Lib.hid (show Tr.word k = [] by unfold Tr.word; rw [if_neg hk])
    rw [hl]
    replace hW := Lib.hid hW
    by_cases hk1 : k < 1
    · go_wp2_with fail
      go_ret
      exact ⟨by rw [hfin.out]; rfl, hb⟩
    · have hk2 : 13 < k := by omega
      go_wp2_with fail
      go_ret
      exact ⟨by rw [hfin.out]; rfl, hb⟩
end Go.Proofs.YtpoongljokbgcaaDoor
namespace Go.Proofs.YtpoongljokbgcaaDoor
open Go.RowKit
structure Opr where
  kind : Int
  path : List UInt8
  dest : List UInt8
  off : Int
  len : Int
  data : List UInt8
def in64 (n : Int) : Prop := -9223372036854775808 ≤ n ∧ n ≤ 9223372036854775807
def Opr.ok (o : Opr) : Prop := in64 o.kind ∧ in64 o.off ∧ in64 o.len
namespace Tr
def fields (o : Opr) : List (List UInt8) :=
  if o.kind = 3 ∨ o.kind = 6 then [quo o.path, quo o.dest]
  else if o.kind = 7 then [quo o.path, Lib.itoa o.off, hexes o.data]
  else if o.kind = 8 then [quo o.path, Lib.itoa o.len]
  else if o.kind = 9 then [quo o.path, Lib.itoa o.off, Lib.itoa o.len]
  else if o.kind = 13 then []
  else [quo o.path]
end Tr
/-- A slice of texts of the call's own. -/
def OwnTexts (xs : List (List UInt8)) (w : World) (e : Ending) (w' : World) : Prop :=
  ∃ v, e = .returned v ∧ w'.ownsRow w.heap.size 9 1 v xs.length (xs.map strV) ∧ Below w.heap.size w w'
theorem own_lits (w : World) (base : Nat) (e : TypeId) (xs : List Value) (hB : base ≤ w.heap.size) (hl : xs.length ≤ maxLen) :
    (w.alloc (.cells xs.toArray e)).ownsRow base e 1 (.slice (some ⟨w.heap.size, 0, none⟩) xs.length xs.length) xs.length xs :=
  ⟨by simp, .inr ⟨w.heap.size, xs.length, xs.toArray, rfl, hB, heap_alloc_new w _, Nat.le_refl _, hl, by simp, by simp⟩⟩
set_option maxRecDepth 100000 in
set_option maxHeartbeats 4000000 in
theorem fields_any (o : Opr) (dv : Value) (w : World) (hk : o.ok) (hp : 3 * o.path.length ≤ 140737488355328) (ht : o.kind = 3 ∨ o.kind = 6 → 3 * o.dest.length ≤ 140737488355328)
    (hd : o.kind = 7 → 2 * o.data.length + 1 ≤ 140737488355328) (hr : RdB w dv o.data) :
    Calls Tryd.prog 53 #[.agg #[.int .i64 o.kind, .string (S o.path), .string (S o.dest), .int .i64 o.off, .int .i64 o.len, dv]] w (OwnTexts (Tr.fields o) w) := by
  obtain ⟨k, p, t, f, n, l⟩ := o
  dsimp only at *
  obtain ⟨hk1, ⟨hf1, hf2⟩, ⟨hn1, hn2⟩⟩ := hk
  dsimp only at hf1 hf2 hn1 hn2
  replace hf1 := Lib.hid hf1
  replace hf2 := Lib.hid hf2
  replace hn1 := Lib.hid hn1
  replace hn2 := Lib.hid hn2
  replace hk1 := Lib.hid hk1
  go_enter Tryd.func53, Tryd.ntmps53
  go_wp2_with fail
  refine (quote_any p _ hp).mono ?_
  rintro e w1 ⟨rfl, hb1⟩
  have c0 : w1.cell? ⟨w.heap.size, 0, none⟩ = some (.int .i64 k) := by rw [hb1.cell (p := ⟨w.heap.size, 0, none⟩) (by simp)]; simp
  have c2 : w1.cell? ⟨w.heap.size, 2, none⟩ = some (.string (S t)) := by rw [hb1.cell (p := ⟨w.heap.size, 2, none⟩) (by simp)]; simp
  have c3 : w1.cell? ⟨w.heap.size, 3, none⟩ = some (.int .i64 f) := by rw [hb1.cell (p := ⟨w.heap.size, 3, none⟩) (by simp)]; simp
  have c4 : w1.cell? ⟨w.heap.size, 4, none⟩ = some (.int .i64 n) := by rw [hb1.cell (p := ⟨w.heap.size, 4, none⟩) (by simp)]; simp
  have c5 : w1.cell? ⟨w.heap.size, 5, none⟩ = some dv := by rw [hb1.cell (p := ⟨w.heap.size, 5, none⟩) (by simp)]; simp
  have hsz : w.heap.size + 1 ≤ w1.heap.size := by have := hb1.size; simpa using this
  have hW : Below w.heap.size w w1 := ((Below.refl _ w).alloc (Nat.le_refl _) _).trans (hb1.mono (by simp))
  have hr1 : RdB w1 dv l := hr.below hW
  clear hb1 hr
  obtain ⟨q, hq⟩ : ∃ q, Tr.quo p = q := ⟨_, rfl⟩
  have hfd : Tr.fields ⟨k, p, t, f, n, l⟩ = if k = 3 ∨ k = 6 then [q, Tr.quo t] else if k = 7 then [q, Lib.itoa f, Tr.hexes l] else if k = 8 then [q, Lib.itoa n] else if k = 9 then [q, Lib.itoa f, Lib.itoa n] else if k = 13 then [] else [q] := by
    unfold Tr.fields; simp only [hq]
  rw [hq]
  replace hq := Lib.hid hq
  by_cases k9 : k = 9
  · subst k9
    have hfin := Lib.hid (show Tr.fields ⟨9, p, t, f, n, l⟩ = [q, Lib.itoa f, Lib.itoa n] by rw [hfd]; rfl)
    clear hfd hd ht
    go_wp2_with fail
    go_region_held3 (fun w' => w'.cell? ⟨w.heap.size, 3, none⟩ = some (.int .i64 f) ∧ w'.cell? ⟨w.heap.size, 4, none⟩ = some (.int .i64 n) ∧ RdB w' dv l ∧ w.heap.size + 1 ≤ w'.heap.size ∧ Below w.heap.size w w')
      (first | (go_split_ands; refine ⟨?_, ?_, ?_, ?_, ?_⟩ <;> first | assumption | (rw [World.cell?_alloc_lt _ _ _ (by simp; omega)]; assumption) | (rw [hb1.cell (by simp; omega)]; assumption) | (have := hb1.size; omega) | exact Rd.below (by assumption) (by assumption) | exact Rd.below (by assumption) ((Below.refl _ _).alloc (Nat.le_refl _) _) | exact Below.drew (by assumption) | (refine Below.alloc ?_ ?_ _ <;> first | assumption | omega) | (rw [World.size_alloc]; omega) | exact Below.trans (by assumption) (hb1.mono (by omega))) | go_keep)
      (first | (go_at_call 43; refine (num_any _ _ ?_ ?_).mono ?_; (first | exact hf1.out | exact hn1.out); (first | exact hf2.out | exact hn2.out); rintro e w2 ⟨rfl, hb1⟩))
    all_goals
      obtain ⟨_, _, _, hz, hBB⟩ := ‹_ ∧ _ ∧ _ ∧ _ ∧ _›
      rw [World.size_alloc] at hz
      go_wp2_with fail
      go_ret
      exact ⟨_, rfl, by rw [hfin.out]; exact own_lits _ w.heap.size 9 [.string (S q), .string (S (Lib.itoa f)), .string (S (Lib.itoa n))] (by omega) (by unfold maxLen; simp), hBB⟩
  by_cases k7 : k = 7
  · subst k7
    have hfin := Lib.hid (show Tr.fields ⟨7, p, t, f, n, l⟩ = [q, Lib.itoa f, Tr.hexes l] by rw [hfd]; rfl)
    have hd' : (7 : Int) = 7 → 2 * l.length + 1 ≤ 140737488355328 := hd
    replace hd' := Lib.hid (hd' rfl)
    clear hfd hd ht k9
    go_wp2_with fail
    go_region_held3 (fun w' => w'.cell? ⟨w.heap.size, 3, none⟩ = some (.int .i64 f) ∧ w'.cell? ⟨w.heap.size, 5, none⟩ = some (dv) ∧ RdB w' dv l ∧ w.heap.size + 1 ≤ w'.heap.size ∧ Below w.heap.size w w')
      (first | (go_split_ands; refine ⟨?_, ?_, ?_, ?_, ?_⟩ <;> first | assumption | (rw [World.cell?_alloc_lt _ _ _ (by simp; omega)]; assumption) | (rw [hb1.cell (by simp; omega)]; assumption) | (have := hb1.size; omega) | exact Rd.below (by assumption) (by assumption) | exact Rd.below (by assumption) ((Below.refl _ _).alloc (Nat.le_refl _) _) | exact Below.drew (by assumption) | (refine Below.alloc ?_ ?_ _ <;> first | assumption | omega) | (rw [World.size_alloc]; omega) | exact Below.trans (by assumption) (hb1.mono (by omega))) | go_keep)
      (first | (go_at_call 43; refine (num_any _ _ ?_ ?_).mono ?_; (first | exact hf1.out | exact hn1.out); (first | exact hf2.out | exact hn2.out); rintro e w2 ⟨rfl, hb1⟩) | (go_at_call 44; refine (hexes_any _ l _ ?_ hd'.out).mono ?_; (first | assumption | exact (‹_ ∧ _ ∧ RdB _ dv l ∧ _ ∧ _› : _ ∧ _ ∧ RdB _ dv l ∧ _ ∧ _).2.2.1); rintro e w2 ⟨rfl, hb1⟩))
    all_goals
      obtain ⟨_, _, _, hz, hBB⟩ := ‹_ ∧ _ ∧ _ ∧ _ ∧ _›
      rw [World.size_alloc] at hz
      go_wp2_with fail
      go_ret
      exact ⟨_, rfl, by rw [hfin.out]; exact own_lits _ w.heap.size 9 [.string (S q), .string (S (Lib.itoa f)), .string (S (Tr.hexes l))] (by omega) (by unfold maxLen; simp), hBB⟩
  clear hd
  by_cases k36 : k = 3 ∨ k = 6
  · have ht' := Lib.hid (ht k36)
    have hfin := Lib.hid (show Tr.fields ⟨k, p, t, f, n, l⟩ = [q, Tr.quo t] by rw [hfd, if_pos k36])
    clear hfd ht k7 k9
    rcases k36 with rfl | rfl
    all_goals
      go_wp2_with fail
      refine (quote_any t _ ht'.out).mono ?_
      rintro e w2 ⟨rfl, hb2⟩
      have hz := hb2.size
      have hW2 := hW.trans (hb2.mono (by omega))
      go_wp2_with fail
      go_ret
      exact ⟨_, rfl, by rw [hfin.out]; exact own_lits _ w.heap.size 9 [.string (S q), .string (S (Tr.quo t))] (by omega) (by unfold maxLen; simp), hW2.alloc (by omega) _⟩
  clear ht
  by_cases k8 : k = 8
  · subst k8
    have hfin := Lib.hid (show Tr.fields ⟨8, p, t, f, n, l⟩ = [q, Lib.itoa n] by rw [hfd]; rfl)
    clear hfd k36 k7 k9
    go_wp2_with fail
    refine (num_any n _ hn1.out hn2.out).mono ?_
    rintro e w2 ⟨rfl, hb2⟩
    have hz := hb2.size
    have hW2 := hW.trans (hb2.mono (by omega))
    go_wp2_with fail
    go_ret
    exact ⟨_, rfl, by rw [hfin.out]; exact own_lits _ w.heap.size 9 [.string (S q), .string (S (Lib.itoa n))] (by omega) (by unfold maxLen; simp), hW2.alloc (by omega) _⟩
  rw [if_neg k36, if_neg k7, if_neg k8, if_neg k9] at hfd
  have k3 : (k == 3) = false := beq_eq_false_iff_ne.2 fun h => k36 (.inl h)
  have k6 : (k == 6) = false := beq_eq_false_iff_ne.2 fun h => k36 (.inr h)
  have k7' : (k == 7) = false := beq_eq_false_iff_ne.2 k7
  have k8' : (k == 8) = false := beq_eq_false_iff_ne.2 k8
  have k9' : (k == 9) = false := beq_eq_false_iff_ne.2 k9
  clear k36 k7 k8 k9
  by_cases k13 : k = 13
  · have k13' : (k == 13) = true := beq_iff_eq.2 k13
    rw [if_pos k13] at hfd
    replace hfd := Lib.hid hfd
    clear k13
    go_wp2_with fail
    go_ret
    exact ⟨_, rfl, by rw [hfd.out]; exact World.ownsRow_nil _ _ _ _, hW⟩
  · have k13' : (k == 13) = false := beq_eq_false_iff_ne.2 k13
    rw [if_neg k13] at hfd
    replace hfd := Lib.hid hfd
    clear k13
    go_wp2_with fail
    go_ret
    exact ⟨_, rfl, by rw [hfd.out]; exact own_lits _ w.heap.size 9 [.string (S q)] (by omega) (by unfold maxLen; simp), hW.alloc (by omega) _⟩
end Go.Proofs.YtpoongljokbgcaaDoor
namespace Go.Proofs.YtpoongljokbgcaaDoor
open Go.RowKit
namespace Tr
def print (o : Opr) : List UInt8 × Int :=
  if word o.kind = [] then ([], 231) else if o.kind = 7 ∧ 4096 < o.data.length then ([], 3) else (Lib.join (word o.kind :: fields o) [32], 0)
end Tr
theorem fields_len (o : Opr) : (Tr.fields o).length ≤ 3 := by
  unfold Tr.fields
  split
  · simp
  split
  · simp
  split
  · simp
  split
  · simp
  split
  · simp
  · simp
theorem texts_one (xs : List (List UInt8)) : ∀ u ∈ xs.map strV, u.oneCell' = true := by
  intro u hu; simp only [List.mem_map] at hu; obtain ⟨b, _, rfl⟩ := hu; rfl
theorem infoStr : (Tryd.prog.info? 9).map (fun i => (i.zero, i.size, i.bytes)) = some (some (.string ⟨#[]⟩), 1, 16) := by kernel_rfl
theorem join_S (W : World) (v : Value) (xs : List (List UInt8)) (c : UInt8) (h : RdS W v xs) (hN : xs.length ≤ 140737488355328) (hl : (Lib.join xs [c]).length ≤ 140737488355328) :
    Calls Tryd.prog 45 #[v, .string ⟨#[c]⟩] W (TextBelow (Lib.join xs [c]) W) := by
  have hd : ∀ xs : List (List UInt8), (xs.map S).map (·.data.toList) = xs := fun xs => by rw [List.map_map]; exact (List.map_congr_left fun l _ => rfl).trans (List.map_id _)
  by_cases hx : xs = []
  · subst hx
    obtain ⟨a, cap, rfl⟩ := h.len
    exact (Tryd.strings_Join_none a cap _ W).mono fun e w' ⟨he, hw⟩ => ⟨by rw [he]; rfl, hw ▸ Below.refl _ _⟩
  · obtain ⟨b, o, cap, rfl, hc, hb, hcell⟩ := h.at hx
    have := Tryd.strings_Join b o cap (xs.map S) (S [c]) W (fun j x hj => by
      rw [List.getElem?_map] at hj
      obtain ⟨l, hl, rfl⟩ := Option.map_eq_some_iff.1 hj
      obtain ⟨hj', rfl⟩ := List.getElem?_eq_some_iff.1 hl
      exact hcell j hj') hb (by simpa using hN) (by simpa using hc) (by rw [hd]; exact hl)
    rw [hd, List.length_map] at this
    exact this
theorem word_nil (k : Int) : Tr.word k = [] ↔ ¬ (1 ≤ k ∧ k ≤ 13) := by
  unfold Tr.word
  by_cases h : 1 ≤ k ∧ k ≤ 13
  · rw [if_pos h]
    simp only [h, and_self, not_true, iff_false]
    obtain ⟨j, hj, hj2⟩ : ∃ j, (k - 1).toNat = j ∧ j < 13 := ⟨_, rfl, by omega⟩
    rw [hj]
    have : ∀ j, j < 13 → Tr.wds.getD j [] ≠ [] := by decide
    exact this j hj2
  · simp [h]
def TextNum (r : List UInt8 × Int) (w : World) (e : Ending) (w' : World) : Prop := e = .returned (.tuple #[.string (S r.1), .int .i64 r.2]) ∧ Below w.heap.size w w'
set_option maxRecDepth 100000 in
set_option maxHeartbeats 4000000 in
theorem print_any (o : Opr) (dv : Value) (w : World) (hG : Gl w) (hk : o.ok) (hp : 3 * o.path.length ≤ 140737488355328) (ht : o.kind = 3 ∨ o.kind = 6 → 3 * o.dest.length ≤ 140737488355328)
    (hr : RdB w dv o.data) (hj : (o.kind = 7 → ¬ 4096 < o.data.length) → (Lib.join (Tr.word o.kind :: Tr.fields o) [32]).length ≤ 140737488355328) :
    Calls Tryd.prog 19 #[.agg #[.int .i64 o.kind, .string (S o.path), .string (S o.dest), .int .i64 o.off, .int .i64 o.len, dv]] w (TextNum (Tr.print o) w) := by
  obtain ⟨i0, hi0, hz0, hz1, hz2⟩ := info_parts infoStr
  have hf := fun W hd hr => fields_any o dv W hk hp ht hd hr
  have hk1 : in64 o.kind := hk.1
  replace hf := Lib.hid hf
  clear ht hk
  obtain ⟨k, p, t, f, n, l⟩ := o
  dsimp only at hr hj hk1
  obtain ⟨hk1, hk2⟩ := hk1
  replace hk1 := Lib.hid hk1
  replace hk2 := Lib.hid hk2
  dsimp only
  have hl : ∃ a cap, dv = .slice a l.length cap := hr.len
  obtain ⟨av, cap, rfl⟩ := hl
  replace hj := Lib.hid hj
  replace hG := Lib.hid hG
  have hb0 : Below w.heap.size w (w.alloc (.cells #[.int .i64 k, .string (S p), .string (S t), .int .i64 f, .int .i64 n, .slice av l.length cap] 44)) := (Below.refl _ _).alloc (Nat.le_refl _) _
  replace hb0 := Lib.hid hb0
  go_enter Tryd.func19, Tryd.ntmps19
  go_wp2_with fail
  refine (word_any k _ (hG.out.below hb0.out) hk1.out hk2.out).mono ?_
  rintro e w1 ⟨rfl, hb1⟩
  have c0 : w1.cell? ⟨w.heap.size, 0, none⟩ = some (.int .i64 k) := by rw [hb1.cell (p := ⟨w.heap.size, 0, none⟩) (by simp)]; simp
  have c1 : w1.cell? ⟨w.heap.size, 1, none⟩ = some (.string (S p)) := by rw [hb1.cell (p := ⟨w.heap.size, 1, none⟩) (by simp)]; simp
  have c2 : w1.cell? ⟨w.heap.size, 2, none⟩ = some (.string (S t)) := by rw [hb1.cell (p := ⟨w.heap.size, 2, none⟩) (by simp)]; simp
  have c3 : w1.cell? ⟨w.heap.size, 3, none⟩ = some (.int .i64 f) := by rw [hb1.cell (p := ⟨w.heap.size, 3, none⟩) (by simp)]; simp
  have c4 : w1.cell? ⟨w.heap.size, 4, none⟩ = some (.int .i64 n) := by rw [hb1.cell (p := ⟨w.heap.size, 4, none⟩) (by simp)]; simp
  have c5 : w1.cell? ⟨w.heap.size, 5, none⟩ = some (.slice av l.length cap) := by rw [hb1.cell (p := ⟨w.heap.size, 5, none⟩) (by simp)]; simp
  have hsz : w.heap.size + 1 ≤ w1.heap.size := by have := hb1.size; simpa using this
  have hW : Below w.heap.size w w1 := hb0.out.trans (hb1.mono (by simp))
  have hr1 : RdB w1 (.slice av l.length cap) l := hr.below hW
  clear hb1 hr
  obtain ⟨x, hx⟩ : ∃ x, Tr.word k = x := ⟨_, rfl⟩
  have hpr : Tr.print ⟨k, p, t, f, n, l⟩ = if x = [] then ([], 231) else if k = 7 ∧ 4096 < l.length then ([], 3) else (Lib.join (x :: Tr.fields ⟨k, p, t, f, n, l⟩) [32], 0) := by
    unfold Tr.print; rw [hx]
  rw [hx] at hj ⊢
  replace hx := Lib.hid hx
  replace hpr := Lib.hid hpr
  by_cases hx0 : x = []
  · have hfin := Lib.hid (show Tr.print ⟨k, p, t, f, n, l⟩ = ([], 231) by rw [hpr.out, if_pos hx0])
    subst hx0
    go_wp2_with fail
    go_ret2
    exact ⟨by rw [hfin.out]; rfl, hW⟩
  have hx1 : (x == []) = false := by simpa using hx0
  by_cases h7 : k = 7 ∧ 4096 < l.length
  · have hfin := Lib.hid (show Tr.print ⟨k, p, t, f, n, l⟩ = ([], 3) by rw [hpr.out, if_neg hx0, if_pos h7])
    obtain ⟨rfl, h7⟩ := h7
    clear hx0
    go_wp2_with fail
    go_ret2
    exact ⟨by rw [hfin.out]; rfl, hW⟩
  have hfin := Lib.hid (show Tr.print ⟨k, p, t, f, n, l⟩ = (Lib.join (x :: Tr.fields ⟨k, p, t, f, n, l⟩) [32], 0) by rw [hpr.out, if_neg hx0, if_neg h7])
  have hd7 := Lib.hid (show k = 7 → 2 * l.length + 1 ≤ 140737488355328 by intro h; have : ¬ 4096 < l.length := fun h' => h7 ⟨h, h'⟩; omega)
  have hjj := Lib.hid (show (k = 7 → ¬ 4096 < l.length) from fun h h' => h7 ⟨h, h'⟩)
  obtain ⟨xs, hxs⟩ : ∃ xs, Tr.fields ⟨k, p, t, f, n, l⟩ = xs := ⟨_, rfl⟩
  have hxl : xs.length ≤ 3 := by rw [← hxs]; exact fields_len _
  rw [hxs] at hfin hj hf
  replace hxs := Lib.hid hxs
  clear hx0
  have dN : ∀ o v, w1.cell? ⟨w.heap.size, o, none⟩ = some v → (w1.alloc (.cells #[.string (S x)] 9)).cell? ⟨w.heap.size, o, none⟩ = some v := fun o v h => by
    rw [World.cell?_alloc_lt _ _ _ (by simp; omega)]; exact h
  have d0 := dN _ _ c0
  have d1 := dN _ _ c1
  have d2 := dN _ _ c2
  have d3 := dN _ _ c3
  have d4 := dN _ _ c4
  have d5 := dN _ _ c5
  clear dN
  have hr2 : RdB (w1.alloc (.cells #[.string (S x)] 9)) (.slice av l.length cap) l := hr1.below ((Below.refl _ _).alloc (Nat.le_refl _) _)
  have hC := Lib.hid (hf.out _ hd7.out hr2)
  have hBx : Below w.heap.size w (w1.alloc (.cells #[.string (S x)] 9)) := hW.alloc (by omega) _
  have hjl := Lib.hid (hj.out hjj.out)
  by_cases k7 : k = 7
  · have h40 : ¬ 4096 < l.length := hjj.out k7
    subst k7
    clear h7
    go_wp2_with fail
    refine hC.out.mono ?_
    rintro e w2 ⟨v, rfl, hown, hb2⟩
    have hL := own_below (own_lit w1 w.heap.size 9 (.string (S x)) (by omega)) hb2
    have hzz : w.heap.size + 1 < w2.heap.size := by have := hb2.size; simp at this; omega
    have hB2 : Below w.heap.size w w2 := hBx.trans (hb2.mono (by simp; omega))
    go_wp2_with (at_builtin; go_must (refine wpList_append_both rfl _ _ 58 rfl w.heap.size 9 i0 (.string ⟨#[]⟩) 1 16 Tryd.underlying58 hi0 hz0 hz1 hz2 rfl (by decide) _ 1 [.string (S x)] rfl hL _ _ xs.length (xs.map strV) rfl hown (texts_one xs) (by unfold maxLen; omega) (by omega) (by omega) ?_); intro v' w3 hown3 hgrow)
    rw [Nat.add_comm] at hown3
    have hB3 : Below w.heap.size w w3 := hB2.grown hgrow (by omega) (fun k hk => (hL.lt k hk).1)
    refine (join_S w3 v' (x :: xs) 32 (Rd.of_own (B := w.heap.size) (e := 9) (xs := x :: xs) hown3) (by simp; omega) hjl.out).mono ?_
    rintro e w4 ⟨rfl, hb4⟩
    go_wp2_with fail
    go_ret2
    exact ⟨by rw [hfin.out]; rfl, hB3.trans (hb4.mono hB3.size)⟩
  · have k7' : (k == 7) = false := beq_eq_false_iff_ne.2 k7
    clear h7 k7
    go_wp2_with fail
    refine hC.out.mono ?_
    rintro e w2 ⟨v, rfl, hown, hb2⟩
    have hL := own_below (own_lit w1 w.heap.size 9 (.string (S x)) (by omega)) hb2
    have hzz : w.heap.size + 1 < w2.heap.size := by have := hb2.size; simp at this; omega
    have hB2 : Below w.heap.size w w2 := hBx.trans (hb2.mono (by simp; omega))
    go_wp2_with (at_builtin; go_must (refine wpList_append_both rfl _ _ 58 rfl w.heap.size 9 i0 (.string ⟨#[]⟩) 1 16 Tryd.underlying58 hi0 hz0 hz1 hz2 rfl (by decide) _ 1 [.string (S x)] rfl hL _ _ xs.length (xs.map strV) rfl hown (texts_one xs) (by unfold maxLen; omega) (by omega) (by omega) ?_); intro v' w3 hown3 hgrow)
    rw [Nat.add_comm] at hown3
    have hB3 : Below w.heap.size w w3 := hB2.grown hgrow (by omega) (fun k hk => (hL.lt k hk).1)
    refine (join_S w3 v' (x :: xs) 32 (Rd.of_own (B := w.heap.size) (e := 9) (xs := x :: xs) hown3) (by simp; omega) hjl.out).mono ?_
    rintro e w4 ⟨rfl, hb4⟩
    go_wp2_with fail
    go_ret2
    exact ⟨by rw [hfin.out]; rfl, hB3.trans (hb4.mono hB3.size)⟩
end Go.Proofs.YtpoongljokbgcaaDoor
