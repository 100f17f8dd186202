/- The reference's bytes of a word (slipwayref27.data). -/
import Derived.Test.YtpoongljokbgcaaDoorM
import Derived.Test.YtpoongljokbgcaaDoorG
namespace Go.Proofs.YtpoongljokbgcaaDoor
open Go.RowKit
theorem unhexes_odd : ∀ (n : Nat) (l : List UInt8), l.length = 2 * n + 1 → Tr.unhexes l = none := by
  intro n
  induction n with
  | zero =>
    intro l h
    match l, h with
    | [_], _ => rfl
  | succ n ih =>
    intro l h
    match l, h with
    | a :: b :: r, h =>
      simp only [List.length_cons] at h
      unfold Tr.unhexes
      rw [ih r (by omega)]
      cases Tr.unh a b <;> rfl
theorem getD_app0 (p : List UInt8) (c : UInt8) (r : List UInt8) : (p ++ c :: r).getD p.length 0 = c := by simp
theorem getD_app1 (p : List UInt8) (b c : UInt8) (r : List UInt8) : (p ++ b :: c :: r).getD (p.length + 1) 0 = c := by simp
set_option maxRecDepth 100000 in
set_option maxHeartbeats 4000000 in
theorem data_core (q : List UInt8) (m : Nat) (hq : q.length = 2 * m) (w : World) (hs : q.length ≤ 4000000) :
    Calls Tryd.prog 68 #[.string (S (120 :: q))] w (BytesBool (Tr.unhexes q) w) := by
  obtain ⟨i0, hi0, hz0, hz1, hz2⟩ := info_parts infoByte
  obtain ⟨s, hsq⟩ : ∃ s, 120 :: q = s := ⟨_, rfl⟩
  have hsl : s.length = 2 * m + 1 := by rw [← hsq, List.length_cons, hq]
  have hs0 : ∀ h : 0 < s.length, s[0]'h = 120 := by rw [← hsq]; intro h; rfl
  have e0 : ((s.length : Int) % 2 != 1) = false := by rw [bne_eq_false_iff_eq]; omega
  have hL : s.length ≤ 4000001 := by rw [← hsq, List.length_cons]; omega
  have hL1 : (0 : Int) < (s.length : Int) := by omega
  have hst : 120 :: q = [120] ++ q := rfl
  rw [hsq]
  rw [hsq] at hst
  have hpos : 0 < s.length := by omega
  replace hs0 := hs0 hpos
  replace hsl := Lib.hid hsl
  replace hq := Lib.hid hq
  replace hst := Lib.hid hst
  clear hsq
  go_enter Tryd.func68, Tryd.ntmps68
  go_wp2_with fail
  go_loopw [4, 5] (fun b k wr => ∃ acc pre rest : List UInt8, s = pre ++ rest ∧ k = .int .i64 pre.length ∧ wr.ownsRow w.heap.size 5 1 b acc.length (Lib.byteCells acc) ∧ Below w.heap.size w wr ∧ pre.length = 2 * acc.length + 1 ∧ Tr.unhexes q = (Tr.unhexes rest).map (acc ++ ·))
    (fun _ k _ => s.length - (intOf k).toNat)
  case atStart => exact ⟨[], [120], q, hst.out, rfl, World.ownsRow_nil _ _ _ _, Below.refl _ _, rfl, by simp⟩
  case round =>
    clear hs0 e0 hL1 hpos
    obtain ⟨acc, pre, rest, hpre, rfl, hown, hW, hlen, hu⟩ := hrel
    have hsz := hW.size
    have hll : s.length = pre.length + rest.length := by rw [hpre]; simp
    have hsl' := hsl.out
    match rest with
    | [] =>
      replace hu := Lib.hid (show Tr.unhexes q = some acc by rw [hu]; simp [Tr.unhexes])
      simp only [List.length_nil, Nat.add_zero] at hll
      have hge : ¬ ((pre.length : Int) < (s.length : Int)) := by omega
      replace hpre := Lib.hid hpre
      replace hll := Lib.hid hll
      replace hlen := Lib.hid hlen
      clear hsl'
      go_wp2_with fail
      go_ret2
      rw [hu.out]
      exact ⟨⟨_, rfl, hown⟩, hW⟩
    | [c] =>
      exfalso
      simp only [List.length_cons, List.length_nil] at hll
      omega
    | a :: b :: r =>
      simp only [List.length_cons] at hll
      have hlt : pre.length < s.length := by omega
      have hlt1 : pre.length + 1 < s.length := by omega
      have f9 := Lib.hid (show s.getD pre.length 0 = a by rw [hpre]; exact getD_app0 pre a _)
      have f10 := Lib.hid (show s.getD (pre.length + 1) 0 = b by rw [hpre]; exact getD_app1 pre a b r)
      have g0 := get_at pre a _ s hpre hlt
      have g1 := get_at1 pre a b r s hpre hlt1
      have hacc : acc.length ≤ 4000001 := by omega
      replace hll := Lib.hid hll
      replace hlen := Lib.hid hlen
      clear hsl'
      cases hd : Tr.unh a b with
      | none =>
        replace hu := Lib.hid (show Tr.unhexes q = none by rw [hu]; simp [Tr.unhexes, hd])
        replace hpre := Lib.hid hpre
        have hx : ¬ (Tr.nib a < 16 ∧ Tr.nib b < 16) := by
          intro h; unfold Tr.unh at hd; rw [if_pos h] at hd; cases hd
        clear hd
        by_cases ha : Tr.nib a < 16
        · have hb : ¬ Tr.nib b < 16 := fun h => hx ⟨ha, h⟩
          have h1 := Lib.hid (index_lt a ha)
          have h2 := Lib.hid (index_ge b hb)
          clear hx hb
          go_wp2_with fail
          refine (hexr_eq a _ _ h1.out).mono ?_
          rintro e w0 ⟨rfl, rfl⟩
          go_wp2_with fail
          refine (hexr_eq b _ _ h2.out).mono ?_
          rintro e w0 ⟨rfl, rfl⟩
          go_wp2_with fail
          go_ret2
          rw [hu.out]
          exact ⟨⟨_, rfl, World.ownsRow_nil _ _ _ _⟩, hW⟩
        · have h1 := Lib.hid (index_ge a ha)
          clear hx ha
          go_wp2_with fail
          refine (hexr_eq a _ _ h1.out).mono ?_
          rintro e w0 ⟨rfl, rfl⟩
          go_wp2_with fail
          go_ret2
          rw [hu.out]
          exact ⟨⟨_, rfl, World.ownsRow_nil _ _ _ _⟩, hW⟩
      | some d =>
        replace hu := Lib.hid (show Tr.unhexes q = (Tr.unhexes r).map ((acc ++ [d]) ++ ·) by rw [hu]; simp [Tr.unhexes, hd, Function.comp_def])
        replace hpre := Lib.hid hpre
        have hx : Tr.nib a < 16 ∧ Tr.nib b < 16 := by
          by_cases hx : Tr.nib a < 16 ∧ Tr.nib b < 16
          · exact hx
          · unfold Tr.unh at hd; rw [if_neg hx] at hd; cases hd
        have H := Lib.hid (show 16 * Tr.nib a + Tr.nib b = d.toNat by
          unfold Tr.unh at hd; rw [if_pos hx] at hd; rw [← Option.some.inj hd]; simp; omega)
        clear hd
        obtain ⟨ha, hb⟩ := hx
        have h1 := Lib.hid (index_lt a ha)
        have h2 := Lib.hid (index_lt b hb)
        obtain ⟨x, hx⟩ : ∃ x, Tr.nib a = x := ⟨_, rfl⟩
        obtain ⟨y, hy⟩ : ∃ y, Tr.nib b = y := ⟨_, rfl⟩
        rw [hx] at h1 ha H; rw [hy] at h2 hb H
        clear hx hy
        have e1 := u8_in (16 * (x : Int) + y) (by omega)
        go_wp2_with fail
        refine (hexr_eq a _ _ h1.out).mono ?_
        rintro e w0 ⟨rfl, rfl⟩
        go_wp2_with fail
        refine (hexr_eq b _ _ h2.out).mono ?_
        rintro e w0 ⟨rfl, rfl⟩
        go_wp2_with fail
        have e2 := IntWalk.i64_in (16 * (x : Int)) (by omega)
        have e3 := IntWalk.i64_in (16 * (x : Int) + y) (by omega)
        have f1 := IntWalk.i64_in ((pre.length : Int) + 1) (by omega)
        have f3 : (0 : Int) ≤ (pre.length : Int) + 1 := by omega
        have f5 : (pre.length : Int) + 1 < (s.length : Int) := by omega
        have f7 : ((pre.length : Int) + 1).toNat = pre.length + 1 := by omega
        replace f9 := f9.out
        replace f10 := f10.out
        go_region_held3 (fun _ => True) (exact trivial)
          (first
            | (go_at_call 38; (first | (with_reducible refine (hexr_eq a _ _ h1.out).mono ?_) | (with_reducible refine (hexr_eq b _ _ h2.out).mono ?_)); rintro e w0 ⟨rfl, rfl⟩)
            | (refine step_append_lies _ (by rfl) _ _ _ (by rfl) w.heap.size 5 i0 _ 1 1 Tryd.underlying28 hi0 hz0 hz1 hz2 rfl (by omega) _ acc.length (Lib.byteCells acc) (by rfl) ((hown.alloc _).drew) ⟨wr.heap.size, 0, none⟩ 1 1 [.int .u8 (16 * (x : Int) + y)] (by rfl) (by rfl) (World.news_of_block (cs := #[.int .u8 (16 * (x : Int) + y)]) (t := 5) (fr := (0, 0)) (heap_alloc_new wr _)) (by simp [Value.oneCell']) (by omega) (by unfold maxLen; omega) (by omega) (by simp; omega) (wr.heap.size + 1) (by simp) ?_; intro gg cap w1 hown1 hgrow hat hlt))
        all_goals
          go_wp2_with fail
          go_roundw
          case rel => exact ⟨acc ++ [d], pre ++ [a, b], r, by rw [hpre.out]; simp, by simp, by rw [show (16 * (x : Int) + y) = (d.toNat : Int) from by have := H.out; omega] at hown1; simpa [Lib.byteCells] using hown1, below_push hW (Nat.le_refl _) hown hgrow, by have := hlen.out; simp; omega, hu.out⟩
          case measure => simp [intOf]; omega
set_option maxRecDepth 100000 in
set_option maxHeartbeats 1000000 in
theorem data_any (s : List UInt8) (w : World) (hs : s.length ≤ 4000000) :
    Calls Tryd.prog 68 #[.string (S s)] w (BytesBool (Tr.unhexesX s) w) := by
  by_cases hev : s.length % 2 = 1
  · match s, hev with
    | c :: q, hev =>
      simp only [List.length_cons] at hev hs
      by_cases hc : c = 120
      · subst hc
        exact data_core q (q.length / 2) (by omega) w (by omega)
      · have hfin := Lib.hid (show Tr.unhexesX (c :: q) = none by unfold Tr.unhexesX; split <;> simp_all)
        have e0 : (((c :: q).length : Int) % 2 != 1) = false := by rw [bne_eq_false_iff_eq, List.length_cons]; omega
        have e1 : ((c.toNat : Int) != 120) = true := byte_bne c 120 hc
        rw [List.length_cons, Int.natCast_add, Int.natCast_one] at e0
        clear hc
        go_enter Tryd.func68, Tryd.ntmps68
        go_wp2_with fail
        go_ret2
        rw [hfin.out]
        exact ⟨⟨_, rfl, World.ownsRow_nil _ _ _ _⟩, Below.refl _ _⟩
  · have hfin := Lib.hid (show Tr.unhexesX s = none by
      unfold Tr.unhexesX
      split
      · rename_i q
        simp only [List.length_cons] at hev
        exact unhexes_odd (q.length / 2) q (by omega)
      · rfl)
    have e0 : ((s.length : Int) % 2 != 1) = true := by rw [bne_iff_ne]; omega
    clear hev hs
    go_enter Tryd.func68, Tryd.ntmps68
    go_wp2_with fail
    go_ret2
    rw [hfin.out]
    exact ⟨⟨_, rfl, World.ownsRow_nil _ _ _ _⟩, Below.refl _ _⟩
end Go.Proofs.YtpoongljokbgcaaDoor
