import Derived.Test.YtpoongljokbgcaaDoorF
namespace Go.Proofs.YtpoongljokbgcaaDoor
open Go.RowKit
theorem unq_bad {l : List UInt8} (h : (Tr.uq l).2 = false) (hl : l ≠ [37]) : Tr.unq l = none := by
  refine unq_no fun he => ?_
  by_cases hb : (Tr.uq l).1 = []
  · rw [hb] at he; exact hl (by rw [← he]; rfl)
  · have : Tr.uq l = ((Tr.uq l).1, true) := by
      have h1 := Tr.uq_flat (Tr.uq l).1
      have h2 : Tr.quo (Tr.uq l).1 = (Tr.uq l).1.flatMap Tr.quo1 := by unfold Tr.quo; rw [if_neg hb]
      rw [← h2, he] at h1; exact h1
    rw [this] at h; cases h
theorem hexr_eq (c : UInt8) (x : Int) (w : World) (h : Lib.indexByte Tr.dgs c = x) : Calls Tryd.prog 38 #[.int .u8 c.toNat] w fun e w' => e = .returned (.int .i64 x) ∧ w = w' := by
  rw [← h]; exact (hexr_any c w).mono fun _ _ ⟨a, b⟩ => ⟨a, b.symm⟩
theorem get_at (p : List UInt8) (c : UInt8) (r l : List UInt8) (h : l = p ++ c :: r) (hlt : p.length < l.length) : l[p.length] = c := by subst h; simp
theorem get_at1 (p : List UInt8) (b c : UInt8) (r l : List UInt8) (h : l = p ++ b :: c :: r) (hlt : p.length + 1 < l.length) : l[p.length + 1] = c := by
  subst h; simp
theorem get_at2 (p : List UInt8) (a b c : UInt8) (r l : List UInt8) (h : l = p ++ a :: b :: c :: r) (hlt : p.length + 2 < l.length) : l[p.length + 2] = c := by
  subst h; simp
set_option maxRecDepth 100000 in
set_option maxHeartbeats 2000000 in
theorem unquoter_any (l : List UInt8) (w : World) (hl : 3 * l.length ≤ 140737488355328) :
    Calls Tryd.prog 11 #[.string (S l)] w (TextErr (Tr.unq l) 270 w) := by
  by_cases h37 : l = [37]
  · subst h37
    go_enter Tryd.func11, Tryd.ntmps11
    go_wp2_with fail
    go_ret2
    exact ⟨rfl, Below.refl _ _⟩
  have h37' : (l == [37]) = false := by simpa using h37
  obtain ⟨i0, hi0, hz0, hz1, hz2⟩ := info_parts infoByte
  go_enter Tryd.func11, Tryd.ntmps11
  go_wp2_with fail
  go_loopw [4, 5] (fun b k wr => ∃ acc pre rest : List UInt8, l = pre ++ rest ∧ k = .int .i64 pre.length ∧ wr.ownsRow w.heap.size 5 1 b acc.length (Lib.byteCells acc) ∧ Below w.heap.size w wr ∧ acc.length ≤ pre.length ∧ Tr.uq l = (acc ++ (Tr.uq rest).1, (Tr.uq rest).2))
    (fun _ k _ => l.length - (intOf k).toNat)
  case atStart => exact ⟨[], [], l, rfl, rfl, World.ownsRow_nil _ _ _ _, Below.refl _ _, by simp, by simp⟩
  case round =>
    obtain ⟨acc, pre, rest, hpre, rfl, hown, hW, hlen, hu⟩ := hrel
    have hsz := hW.size
    have hll : l.length = pre.length + rest.length := by rw [hpre]; simp
    cases rest with
    | nil =>
      rw [Tr.uq_nil, List.append_nil] at hu
      simp only [List.length_nil, Nat.add_zero] at hll
      replace hpre := Lib.hid hpre
      replace hu := Lib.hid hu
      have hll' : ¬ ((pre.length : Int) < l.length) := by omega
      have hcv := convert_rd (P := Tryd.prog) Tryd.underlying28 Tryd.underlying5 Tryd.underlying9 (Rd.of_own hown)
      by_cases hn : l = []
      · have hn' : (l == []) = true := by simpa using hn
        replace hn := Lib.hid hn
        go_wp2_with fail
        go_ret2
        exact ⟨by rw [hn.out]; rfl, hW⟩
      · have hn' : (l == []) = false := by simpa using hn
        go_wp2_with fail
        refine (quoter_any acc _ (by omega)).mono ?_
        rintro e w1 ⟨rfl, hb1⟩
        have hcv1 := convert_rd (P := Tryd.prog) Tryd.underlying28 Tryd.underlying5 Tryd.underlying9 ((Rd.of_own hown).below hb1)
        by_cases hq : Tr.quo acc = l
        · have hq' : (Tr.quo acc == l) = true := by simpa using hq
          replace hq := Lib.hid hq
          go_wp2_with fail
          go_ret2
          exact ⟨by rw [unq_yes (by rw [hu.out]; exact hq.out)]; rw [hu.out]; rfl, hW.trans (hb1.mono hsz)⟩
        · have hq' : (Tr.quo acc == l) = false := by simpa using hq
          replace hq := Lib.hid hq
          go_wp2_with fail
          go_ret2
          exact ⟨by rw [unq_no (by rw [hu.out]; exact hq.out)]; rfl, hW.trans (hb1.mono hsz)⟩
    | cons c r =>
      rw [List.length_cons] at hll
      have hlt : pre.length < l.length := by omega
      have g0 := get_at pre c r l hpre hlt
      by_cases hc : c = 37
      · subst hc
        by_cases hr : r.length < 2
        · rw [Tr.uq_short r hr] at hu
          have hbad := Lib.hid (unq_bad (l := l) (by rw [hu]) h37)
          clear hu
          replace hpre := Lib.hid hpre
          replace hll := Lib.hid hll
          have ht : (l.length : Int) ≤ (pre.length : Int) + 2 := by have := hll.out; omega
          go_wp2_with fail
          go_ret2
          exact ⟨by rw [hbad.out]; rfl, hW⟩
        obtain ⟨a, b, r', rfl⟩ : ∃ a b r', r = a :: b :: r' := by
          match r, hr with
          | a :: b :: r', _ => exact ⟨a, b, r', rfl⟩
          | [], h => simp at h
          | [_], h => simp at h
        simp only [List.length_cons] at hll
        have hlt2 : pre.length + 2 < l.length := by omega
        have hlt1 : pre.length + 1 < l.length := by omega
        have g1 := get_at1 pre 37 a _ l hpre hlt1
        have g2 := get_at2 pre 37 a b r' l hpre hlt2
        replace hll := Lib.hid hll
        cases hd : Tr.unh a b with
        | none =>
          rw [Tr.uq_none a b r' hd] at hu
          have hbad := Lib.hid (unq_bad (l := l) (by rw [hu]) h37)
          clear hu
          replace hpre := Lib.hid hpre
          have hx : ¬ (Tr.nib a < 16 ∧ Tr.nib b < 16) := by
            intro h; unfold Tr.unh at hd; rw [if_pos h] at hd; cases hd
          clear hd
          by_cases ha : Tr.nib a < 16
          · have hb : ¬ Tr.nib b < 16 := fun h => hx ⟨ha, h⟩
            have h1 := Lib.hid (index_lt a ha)
            have h2 := Lib.hid (index_ge b hb)
            clear hx hb
            go_wp2_with fail
            refine (hexr_eq a _ _ h1.out).mono ?_
            rintro e w0 ⟨rfl, rfl⟩
            go_wp2_with fail
            refine (hexr_eq b _ _ h2.out).mono ?_
            rintro e w0 ⟨rfl, rfl⟩
            go_wp2_with fail
            go_ret2
            exact ⟨by rw [hbad.out]; rfl, hW⟩
          · have h1 := Lib.hid (index_ge a ha)
            clear hx ha
            go_wp2_with fail
            refine (hexr_eq a _ _ h1.out).mono ?_
            rintro e w0 ⟨rfl, rfl⟩
            go_wp2_with fail
            go_ret2
            exact ⟨by rw [hbad.out]; rfl, hW⟩
        | some d =>
          rw [Tr.uq_some a b d r' hd] at hu
          replace hu := Lib.hid hu
          replace hpre := Lib.hid hpre
          have hx : Tr.nib a < 16 ∧ Tr.nib b < 16 := by
            by_cases hx : Tr.nib a < 16 ∧ Tr.nib b < 16
            · exact hx
            · unfold Tr.unh at hd; rw [if_neg hx] at hd; cases hd
          have H := Lib.hid (show 16 * Tr.nib a + Tr.nib b = d.toNat by
            unfold Tr.unh at hd; rw [if_pos hx] at hd; rw [← Option.some.inj hd]; simp; omega)
          clear hd
          obtain ⟨ha, hb⟩ := hx
          have h1 := Lib.hid (index_lt a ha)
          have h2 := Lib.hid (index_lt b hb)
          obtain ⟨x, hx⟩ : ∃ x, Tr.nib a = x := ⟨_, rfl⟩
          obtain ⟨y, hy⟩ : ∃ y, Tr.nib b = y := ⟨_, rfl⟩
          rw [hx] at h1 ha H; rw [hy] at h2 hb H
          clear hx hy
          have e1 := u8_in (16 * (x : Int) + y) (by omega)
          go_wp2_with fail
          refine (hexr_eq a _ _ h1.out).mono ?_
          rintro e w0 ⟨rfl, rfl⟩
          go_wp2_with fail
          refine (hexr_eq b _ _ h2.out).mono ?_
          rintro e w0 ⟨rfl, rfl⟩
          go_wp2_with fail
          have e2 := IntWalk.i64_in (16 * (x : Int)) (by omega)
          have e3 := IntWalk.i64_in (16 * (x : Int) + y) (by omega)
          have f1 := IntWalk.i64_in ((pre.length : Int) + 1) (by omega)
          have f2 := IntWalk.i64_in ((pre.length : Int) + 2) (by omega)
          have f3 : (0 : Int) ≤ (pre.length : Int) + 1 := by omega
          have f4 : (0 : Int) ≤ (pre.length : Int) + 2 := by omega
          have f5 : (pre.length : Int) + 1 < (l.length : Int) := by omega
          have f6 : (pre.length : Int) + 2 < (l.length : Int) := by omega
          have f7 : ((pre.length : Int) + 1).toNat = pre.length + 1 := by omega
          have f8 : ((pre.length : Int) + 2).toNat = pre.length + 2 := by omega
          have f9 : l.getD (pre.length + 1) 0 = a := by rw [← g1]; simp [hlt1]
          have f10 : l.getD (pre.length + 2) 0 = b := by rw [← g2]; simp [hlt2]
          go_region_held3 (fun _ => True) (exact trivial)
            (first
              | (go_at_call 38; (first | (with_reducible refine (hexr_eq a _ _ h1.out).mono ?_) | (with_reducible refine (hexr_eq b _ _ h2.out).mono ?_)); rintro e w0 ⟨rfl, rfl⟩)
              | (refine step_append_lies _ (by rfl) _ _ _ (by rfl) w.heap.size 5 i0 _ 1 1 Tryd.underlying28 hi0 hz0 hz1 hz2 rfl (by omega) _ acc.length (Lib.byteCells acc) (by rfl) ((hown.alloc _).drew) ⟨wr.heap.size, 0, none⟩ 1 1 [.int .u8 (16 * (x : Int) + y)] (by rfl) (by rfl) (World.news_of_block (cs := #[.int .u8 (16 * (x : Int) + y)]) (t := 5) (fr := (0, 0)) (heap_alloc_new wr _)) (by simp [Value.oneCell']) (by omega) (by unfold maxLen; omega) (by omega) (by simp; omega) (wr.heap.size + 1) (by simp) ?_; intro gg cap w1 hown1 hgrow hat hlt))
          all_goals
            go_wp2_with fail
            go_roundw
            case rel => exact ⟨acc ++ [d], pre ++ [37, a, b], r', by rw [hpre.out]; simp, by simp; omega, by rw [show (16 * (x : Int) + y) = (d.toNat : Int) from by have := H.out; omega] at hown1; simpa [Lib.byteCells] using hown1, below_push hW (Nat.le_refl _) hown hgrow, by simp; omega, by rw [hu.out]; simp⟩
            case measure => simp [intOf]; omega
      · have hcb : ((c.toNat : Int) != 37) = true := byte_bne c 37 hc
        rw [Tr.uq_bare c r hc] at hu
        replace hpre := Lib.hid hpre
        replace hu := Lib.hid hu
        replace hll := Lib.hid hll
        go_wp2_with (at_builtin; refine wpList_append_own _ rfl _ _ 28 rfl w.heap.size 5 i0 (.int .u8 0) 1 1 Tryd.underlying28 hi0 hz0 hz1 hz2 rfl (by decide) _ _ _ rfl (hown.alloc _) ⟨wr.heap.size, 0, none⟩ 1 1 [.int .u8 c.toNat] rfl rfl ?c1 ?c2 ?c3 ?c4 ?c5 ?_)
        case c2 => simp [Value.oneCell']
        case c3 => unfold maxLen; omega
        case c4 => omega
        case c5 => (first | omega | (simp; omega))
        intro v' w1 hown1 hgrow _
        go_wp2_with fail
        go_roundw
        case rel => exact ⟨acc ++ [c], pre ++ [c], r, by rw [hpre.out]; simp, by simp, by simpa [Lib.byteCells] using hown1, below_push' hW (Nat.le_refl _) hown hgrow, by simp; omega, by rw [hu.out]; simp⟩
        case measure => simp [intOf]; omega
end Go.Proofs.YtpoongljokbgcaaDoor
