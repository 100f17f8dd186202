import Derived.Test.YtpoongljokbgcaaDoorD
import Derived.Test.YtpoongljokbgcaaDoorH
import Derived.Deep.RegionHeld3
import Derived.Deep.AppendLies
import Derived.Maps.AppendAt
import Derived.Lib.ConvBytes
namespace Go.Proofs.YtpoongljokbgcaaDoor
open Go.RowKit
def TextErr (o : Option (List UInt8)) (c : Int) (w : World) (e : Ending) (w' : World) : Prop :=
  e = .returned (match o with | some b => .tuple #[.string (S b), .int .i64 0] | none => .tuple #[.string (S []), .int .i64 c]) ∧ Below w.heap.size w w'
theorem below_drewN' {B : Nat} {w w' : World} {n : Nat} (h : Below B (w.drewN n) w') : Below B w w' := ⟨h.os, h.tape, h.output, h.size, h.block⟩
theorem own_drewN {w : World} {base : Nat} {e : TypeId} {size : Nat} {v : Value} {n : Nat} {xs : List Value} (h : w.ownsRow base e size v n xs) (k : Nat) : (w.drewN k).ownsRow base e size v n xs := h
theorem own_drew {w : World} {base : Nat} {e : TypeId} {size : Nat} {v : Value} {n : Nat} {xs : List Value} (h : w.ownsRow base e size v n xs) : w.drew.ownsRow base e size v n xs := h
theorem below_pushN {w wr w1 : World} {B : Nat} {e sz : Nat} {u : Value} {n : Nat} {xs : List Value} {o : Obj} {k : Nat} (hW : Below B w wr) (hB : B ≤ w.heap.size) (hown : wr.ownsRow B e sz u n xs)
    (hg : (((wr.alloc o).drewN k).drew).grownBy w1 u.ownBlock) : Below B w w1 :=
  have h1 : Below B w (((wr.alloc o).drewN k).drew) := by
    have h := (hW.alloc (Nat.le_trans hB hW.size) o)
    exact ⟨h.os, h.tape, h.output, h.size, h.block⟩
  h1.grown hg (by have := hW.size; simp; omega) (fun k hk => (hown.lt k hk).1)
theorem unq_yes {l : List UInt8} (h : Tr.quo (Tr.uq l).1 = l) : Tr.unq l = some (Tr.uq l).1 := by unfold Tr.unq; rw [if_pos h]
theorem unq_no {l : List UInt8} (h : ¬ Tr.quo (Tr.uq l).1 = l) : Tr.unq l = none := by unfold Tr.unq; rw [if_neg h]
set_option maxRecDepth 100000 in
set_option maxHeartbeats 1000000 in
theorem unquote_any (l : List UInt8) (w : World) (hl : 3 * l.length ≤ 140737488355328) :
    Calls Tryd.prog 10 #[.string (S l)] w (TextErr (Tr.unq l) 270 w) := by
  obtain ⟨i0, hi0, hz0, hz1, hz2⟩ := info_parts infoByte
  go_enter Tryd.func10, Tryd.ntmps10
  go_wp2_with fail
  go_loopw [4, 5] (fun b r wr => ∃ acc rest : List UInt8, r = .string (S rest) ∧ wr.ownsRow w.heap.size 5 1 b acc.length (Lib.byteCells acc) ∧ Below w.heap.size w wr ∧ acc.length + rest.length ≤ l.length ∧ (Tr.uq l).1 = acc ++ (Tr.uq rest).1)
    (fun _ r _ => match r with | .string s => s.size | _ => 0)
  case atStart => exact ⟨[], l, rfl, World.ownsRow_nil _ _ _ _, Below.refl _ _, by simp, by simp⟩
  case round =>
    obtain ⟨acc, rest, rfl, hown, hW, hlen, hu⟩ := hrel
    have hsz := hW.size
    cases rest with
    | nil =>
      rw [Tr.uq_nil, List.append_nil] at hu
      have hu := Lib.hid hu

      have hcv := convert_rd (P := Tryd.prog) Tryd.underlying28 Tryd.underlying5 Tryd.underlying9 (Rd.of_own hown)
      go_wp2_with fail
      refine (quote_any acc _ (by omega)).mono ?_
      rintro e w1 ⟨rfl, hb1⟩
      have hcv1 := convert_rd (P := Tryd.prog) Tryd.underlying28 Tryd.underlying5 Tryd.underlying9 ((Rd.of_own hown).below hb1)
      by_cases hq : Tr.quo acc = l
      · have hq' : (Tr.quo acc == l) = true := by simpa using hq
        have hq := Lib.hid hq
        go_wp2_with fail
        go_ret2
        exact ⟨by rw [unq_yes (by rw [hu.out]; exact hq.out)]; rw [hu.out]; rfl, hW.trans (hb1.mono hsz)⟩
      · have hq' : (Tr.quo acc == l) = false := by simpa using hq
        have hq := Lib.hid hq
        go_wp2_with fail
        go_ret2
        exact ⟨by rw [unq_no (by rw [hu.out]; exact hq.out)]; rfl, hW.trans (hb1.mono hsz)⟩

    | cons c r =>
      rw [List.length_cons] at hlen
      by_cases hc : c = 37
      · subst hc
        have bad : ∀ (h0 : (Tr.uq (37 :: r)).1 = []) (hC : Calls Tryd.prog 37 #[.string (S r)] wr (Bad wr)), True := fun _ _ => trivial
        clear bad
        by_cases hr : r.length < 2
        · rw [Tr.uq_short r hr, List.append_nil] at hu
          have hu := Lib.hid hu
          go_wp2_with fail
          refine (unhex_short r _ hr).mono ?_
          rintro e w0 ⟨⟨v, rfl⟩, nd, rfl⟩
          have hcv := convert_rd (P := Tryd.prog) Tryd.underlying28 Tryd.underlying5 Tryd.underlying9 (Rd.of_own (W := wr.drewN nd) hown)
          go_wp2_with fail
          refine (quote_any acc _ (by omega)).mono ?_
          rintro e w1 ⟨rfl, hb1⟩
          have hcv1 := convert_rd (P := Tryd.prog) Tryd.underlying28 Tryd.underlying5 Tryd.underlying9 ((Rd.of_own (W := wr.drewN nd) hown).below hb1)
          by_cases hq : Tr.quo acc = l
          · have hq' : (Tr.quo acc == l) = true := by simpa using hq
            have hq := Lib.hid hq
            go_wp2_with fail
            go_ret2
            exact ⟨by rw [unq_yes (by rw [hu.out]; exact hq.out)]; rw [hu.out]; rfl, hW.trans ((below_drewN' hb1).mono hsz)⟩
          · have hq' : (Tr.quo acc == l) = false := by simpa using hq
            have hq := Lib.hid hq
            go_wp2_with fail
            go_ret2
            exact ⟨by rw [unq_no (by rw [hu.out]; exact hq.out)]; rfl, hW.trans ((below_drewN' hb1).mono hsz)⟩
        obtain ⟨a, b, r', rfl⟩ : ∃ a b r', r = a :: b :: r' := by
          match r, hr with
          | a :: b :: r', _ => exact ⟨a, b, r', rfl⟩
          | [], h => simp at h
          | [_], h => simp at h
        simp only [List.length_cons] at hlen
        cases hd : Tr.unh a b with
        | none =>
          rw [Tr.uq_none a b r' hd, List.append_nil] at hu
          have hu := Lib.hid hu
          have hd' := Lib.hid hd
          clear hd
          go_wp2_with fail
          refine (unhex_none a b r' _ (by omega) hd'.out).mono ?_
          rintro e w0 ⟨⟨v, rfl⟩, nd, rfl⟩
          have hcv := convert_rd (P := Tryd.prog) Tryd.underlying28 Tryd.underlying5 Tryd.underlying9 (Rd.of_own (W := wr.drewN nd) hown)
          go_wp2_with fail
          refine (quote_any acc _ (by omega)).mono ?_
          rintro e w1 ⟨rfl, hb1⟩
          have hcv1 := convert_rd (P := Tryd.prog) Tryd.underlying28 Tryd.underlying5 Tryd.underlying9 ((Rd.of_own (W := wr.drewN nd) hown).below hb1)
          by_cases hq : Tr.quo acc = l
          · have hq' : (Tr.quo acc == l) = true := by simpa using hq
            have hq := Lib.hid hq
            go_wp2_with fail
            go_ret2
            exact ⟨by rw [unq_yes (by rw [hu.out]; exact hq.out)]; rw [hu.out]; rfl, hW.trans ((below_drewN' hb1).mono hsz)⟩
          · have hq' : (Tr.quo acc == l) = false := by simpa using hq
            have hq := Lib.hid hq
            go_wp2_with fail
            go_ret2
            exact ⟨by rw [unq_no (by rw [hu.out]; exact hq.out)]; rfl, hW.trans ((below_drewN' hb1).mono hsz)⟩
        | some d =>
          rw [Tr.uq_some a b d r' hd] at hu
          have hu := Lib.hid hu
          have hd' := Lib.hid hd
          clear hd
          go_wp2_with fail
          refine (unhex_some a b r' _ (by omega) d hd'.out).mono ?_
          rintro e w0 ⟨rfl, nd, rfl⟩
          go_wp2_with fail
          go_region_held3 (fun _ => True) (exact trivial)
            ((refine step_append_lies _ (by rfl) _ _ _ (by rfl) w.heap.size 5 i0 _ 1 1 Tryd.underlying28 hi0 hz0 hz1 hz2 rfl (by omega) _ acc.length (Lib.byteCells acc) (by rfl) (own_drew (own_drewN (hown.alloc _) nd)) ⟨wr.heap.size, 0, none⟩ 1 1 [.int .u8 d.toNat] (by rfl) (by rfl) (World.news_of_block (cs := #[.int .u8 d.toNat]) (t := 5) (fr := (0, 0)) (heap_alloc_new wr _)) (by simp [Value.oneCell']) (by omega) (by unfold maxLen; omega) (by omega) (by simp; omega) (wr.heap.size + 1) (by simp) ?_; intro gg cap w1 hown1 hgrow hat hlt))
          go_wp2_with fail
          go_roundw
          case rel => exact ⟨acc ++ [d], r', rfl, by simpa [Lib.byteCells] using hown1, below_pushN hW (Nat.le_refl _) hown hgrow, by simp; omega, by rw [hu.out]; simp⟩
          case measure => simp; omega
      · have hcb : ((c.toNat : Int) != 37) = true := byte_bne c 37 hc
        rw [Tr.uq_bare c r hc] at hu
        have hu := Lib.hid hu
        go_wp2_with fail
        go_region_held3 (fun _ => True) (exact trivial)
          ((refine step_append_lies _ (by rfl) _ _ _ (by rfl) w.heap.size 5 i0 _ 1 1 Tryd.underlying28 hi0 hz0 hz1 hz2 rfl (by omega) _ acc.length (Lib.byteCells acc) (by rfl) ((hown.alloc _).drew) ⟨wr.heap.size, 0, none⟩ 1 1 [.int .u8 c.toNat] (by rfl) (by rfl) (World.news_of_block (cs := #[.int .u8 c.toNat]) (t := 5) (fr := (0, 0)) (heap_alloc_new wr _)) (by simp [Value.oneCell']) (by omega) (by unfold maxLen; omega) (by omega) (by simp; omega) (wr.heap.size + 1) (by simp) ?_; intro gg cap w1 hown1 hgrow hat hlt))
        go_wp2_with fail
        go_roundw
        case rel => exact ⟨acc ++ [c], r, rfl, by simpa [Lib.byteCells] using hown1, below_push hW (Nat.le_refl _) hown hgrow, by simp; omega, by rw [hu.out]; simp⟩
        case measure => simp
end Go.Proofs.YtpoongljokbgcaaDoor
