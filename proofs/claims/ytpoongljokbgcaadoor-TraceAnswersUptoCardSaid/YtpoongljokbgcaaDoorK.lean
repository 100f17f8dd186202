import Derived.Test.YtpoongljokbgcaaDoorE
import Derived.Test.YtpoongljokbgcaaDoorJ
namespace Go.Proofs.YtpoongljokbgcaaDoor
open Go.RowKit
namespace Tr
def hexes (l : List UInt8) : List UInt8 := 120 :: l.flatMap Tr.hexB
/-- bytes of digits, two a byte; none: a sign that is no digit, or one digit left -/
def unhexes : List UInt8 → Option (List UInt8)
  | [] => some []
  | [_] => none
  | a :: b :: r => match unh a b with
    | some d => (unhexes r).map (d :: ·)
    | none => none
end Tr
theorem take_hex (l : List UInt8) (k : Nat) (h : k < l.length) : (l.take (k + 1)).flatMap Tr.hexB = (l.take k).flatMap Tr.hexB ++ Tr.hexB l[k] := by
  rw [List.take_succ_eq_append_getElem h, List.flatMap_append]; simp
theorem hexflat_len (l : List UInt8) : (l.flatMap Tr.hexB).length = 2 * l.length := by
  induction l with
  | nil => simp
  | cons c l ih => rw [List.flatMap_cons, List.length_append, List.length_cons, ih]; simp [Tr.hexB]; omega
/-- What a slice that holds something reads as. -/
theorem Rd.at {α : Type} {enc : α → Value} {W : World} {v : Value} {xs : List α} (h : Rd enc W v xs) (hx : xs ≠ []) :
    ∃ b o cap, v = .slice (some ⟨b, o, none⟩) xs.length cap ∧ xs.length ≤ cap ∧ b < W.heap.size ∧ ∀ j (hj : j < xs.length), W.cell? ⟨b, o + j, none⟩ = some (enc xs[j]) := by
  obtain ⟨a, cap, rfl, hc, h3⟩ := h
  match xs, hx with
  | x :: xs, _ =>
    obtain ⟨b, o, rfl, hb, _⟩ := h3 0 x rfl
    refine ⟨b, o, cap, rfl, hc, hb, fun j hj => ?_⟩
    obtain ⟨b', o', e, _, h⟩ := h3 j _ (List.getElem?_eq_getElem hj)
    cases e; exact h
theorem Rd.len {α : Type} {enc : α → Value} {W : World} {v : Value} {xs : List α} (h : Rd enc W v xs) : ∃ a cap, v = .slice a xs.length cap := by
  obtain ⟨a, cap, h1, _⟩ := h; exact ⟨a, cap, h1⟩
set_option maxRecDepth 100000 in
set_option maxHeartbeats 1000000 in
theorem hexes_any (v : Value) (l : List UInt8) (w : World) (hr : RdB w v l) (hl : 2 * l.length + 1 ≤ 140737488355328) :
    Calls Tryd.prog 44 #[v] w (TextBelow (Tr.hexes l) w) := by
  have hat : l ≠ [] → _ := hr.at
  obtain ⟨a, cap, rfl⟩ := hr.len
  go_enter Tryd.func44, Tryd.ntmps44
  go_wp2_with fail
  refine (writeByte_any w.heap.size w.heap.size [] 120 _ (Lib.fresh_isBuilder 69 5 w) (by simp) (by simp)).mono ?_
  rintro e w0 ⟨rfl, hB0, hb0⟩
  have hW0 : Below w.heap.size w w0 := ((Below.refl _ _).alloc (Nat.le_refl _) _).trans hb0
  clear hb0
  go_wp2_with fail
  go_loopw [9] (fun k wr => ∃ i : Nat, i ≤ l.length ∧ k = .int .i64 i ∧ Lib.IsBuilder 69 5 w.heap.size w.heap.size (Lib.byteCells (120 :: (l.take i).flatMap Tr.hexB)) wr ∧ Below w.heap.size w wr)
    (fun k _ => l.length - (intOf k).toNat)
  case atStart => exact ⟨0, Nat.zero_le _, rfl, .inr (by simpa [Lib.byteCells] using hB0), hW0⟩
  case round =>
    obtain ⟨i, hi, rfl, hB, hW⟩ := hrel
    have hsz := hW.size
    by_cases hlt : i < l.length
    · have hne : l ≠ [] := by intro h; rw [h] at hlt; simp at hlt
      obtain ⟨b, o, cap', hv, hcap, hb, hcell⟩ := hat hne
      cases hv
      have hc0 := hcell i hlt
      rw [← hW.cell (p := ⟨b, o + i, none⟩) hb] at hc0
      clear hcell hat hne
      have hlen := hexflat_len (l.take i)
      rw [List.length_take] at hlen
      replace hlen := Lib.hid hlen
      have hts := Lib.hid (take_hex l i hlt)
      obtain ⟨c, hc⟩ : ∃ c, l[i] = c := ⟨_, rfl⟩
      rw [hc] at hts hc0
      unfold byteV at hc0
      replace hc := Lib.hid hc
      go_wp2_with fail
      refine (hex_any c _).mono ?_
      rintro e w1 ⟨rfl, nd, rfl⟩
      go_wp2_with fail
      refine (writeString_any w.heap.size w.heap.size _ _ _ (isBuilder_drewN hB nd) ?_ ?_).mono ?_
      · rw [Lib.byteCells_length, List.length_cons, hlen.out, S_size]
        have : (Tr.hexB c).length = 2 := rfl
        omega
      · exact hsz
      rintro e w1 ⟨rfl, hB1, hb1⟩
      go_wp2_with fail
      go_roundw
      case rel => exact ⟨i + 1, by omega, by go_num, .inr (by rw [hts.out]; simpa [Lib.byteCells, Lib.strCells, S] using hB1), hW.trans (below_drewN' hb1)⟩
      case measure => simp [intOf]; omega
    · have hi' : i = l.length := by omega
      subst hi'
      go_wp2_with fail
      refine (Tryd.Builder_String_any _ _ _ _ hB hW.size).mono ?_
      rintro e w1 ⟨rfl, hb1⟩
      go_wp2_with fail
      go_ret
      exact ⟨by simp [Tr.hexes, S], hW.trans hb1⟩
end Go.Proofs.YtpoongljokbgcaaDoor
