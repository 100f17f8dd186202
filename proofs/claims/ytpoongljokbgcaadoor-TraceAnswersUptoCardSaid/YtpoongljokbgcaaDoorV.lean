import Derived.Test.YtpoongljokbgcaaDoorU
import Derived.Test.YtpoongljokbgcaaDoorG
import Derived.Lib.SlBytesConst
namespace Go.Proofs.YtpoongljokbgcaaDoor
open Go.RowKit
def liveOp : Opr := ⟨7, [47, 97, 32, 98], [], 5, 0, [104, 105]⟩
def liveLine : List UInt8 := [119, 114, 105, 116, 101, 32, 47, 97, 37, 50, 48, 98, 32, 53, 32, 120, 54, 56, 54, 57]
theorem itoa5 : Lib.itoa 5 = [53] := by
  unfold Lib.itoa
  rw [if_neg (by omega), show (5 : Int).toNat = 5 from rfl, Lib.decDigits_one (by omega)]
  rfl
theorem live_print : Tr.print liveOp = (liveLine, 0) := by
  have hf : Tr.fields liveOp = [Tr.quo [47, 97, 32, 98], [53], Tr.hexes [104, 105]] := by
    rw [← itoa5]; rfl
  have hw : Tr.word liveOp.kind = [119, 114, 105, 116, 101] := rfl
  unfold Tr.print
  rw [hw, hf]
  decide
theorem uq_path : Tr.uq [47, 97, 37, 50, 48, 98] = ([47, 97, 32, 98], true) := by
  rw [Tr.uq_bare _ _ (by decide), Tr.uq_bare _ _ (by decide), Tr.uq_some 50 48 32 _ (by decide), Tr.uq_bare _ _ (by decide), Tr.uq_nil]
theorem live_parse : Tr.parse liveLine = some liveOp := by
  have h1 : Tr.spl 32 liveLine = [[119, 114, 105, 116, 101], [47, 97, 37, 50, 48, 98], [53], [120, 54, 56, 54, 57]] := by decide
  have h2 : Tr.kindOf [119, 114, 105, 116, 101] = 7 := by decide
  have h3 : Tr.unq [47, 97, 37, 50, 48, 98] = some [47, 97, 32, 98] := by
    unfold Tr.unq; rw [uq_path]; decide
  have h4 : (Tr.pnum [53]).1 = 5 := by
    unfold Tr.pnum; rw [trim_no 45 53 [] (by decide), has_no 45 53 [] (by decide)]; simp [Tr.uval, Tr.isDig, wrap64]
  have h5 : Tr.unhexesX [120, 54, 56, 54, 57] = some [104, 105] := by decide
  have hb : Tr.build [[119, 114, 105, 116, 101], [47, 97, 37, 50, 48, 98], [53], [120, 54, 56, 54, 57]] = liveOp := by
    unfold Tr.build Tr.txt
    simp only [List.getD_cons_zero, List.getD_cons_succ, h2, h3, h4, h5]
    rfl
  unfold Tr.parse
  simp only [h1, hb, live_print]
  rw [if_neg (by simp only [List.getD_cons_zero, h2]; decide), if_pos trivial]
set_option maxRecDepth 100000 in
set_option maxHeartbeats 4000000 in
theorem live_any (w : World) (hG : Gl w) :
    Calls Tryd.prog 9 #[] w fun e w' => e = .returned (.bool true) ∧ Below w.heap.size w w' := by
  have hb0 : Below w.heap.size w (w.alloc (.cells #[.int .u8 104, .int .u8 105] 5 (2, 3))) := (Below.refl _ _).alloc (Nat.le_refl _) _
  have hrd : RdB (w.alloc (.cells #[.int .u8 104, .int .u8 105] 5 (2, 3))) (.slice (some ⟨w.heap.size, 0, none⟩) 2 2) [104, 105] := by
    refine ⟨_, 2, rfl, Nat.le_refl _, fun j x hj => ⟨w.heap.size, 0, rfl, by simp, ?_⟩⟩
    rw [Lib.cell_of_heap (heap_alloc_new w _)]
    match j, hj with
    | 0, hj => simp at hj; subst hj; rfl
    | 1, hj => simp at hj; subst hj; rfl
  have hlen := Tr.line_len liveOp ⟨⟨by decide, by decide⟩, ⟨by decide, by decide⟩, ⟨by decide, by decide⟩⟩ 10 (by decide) (by decide) (by decide)
  have hp := Lib.hid (print_any liveOp _ _ (hG.below hb0) ⟨⟨by decide, by decide⟩, ⟨by decide, by decide⟩, ⟨by decide, by decide⟩⟩ (by decide) (fun _ => by decide) hrd (fun _ => Nat.le_trans hlen (by decide)))
  rw [live_print] at hp
  replace hrd := Lib.hid hrd
  replace hG := Lib.hid hG
  replace hb0 := Lib.hid hb0
  clear hlen
  have kc := fun (w : World) (C : Array Value) (n c : Nat) => Lib.run_convert_bytes_const (P := Tryd.prog) w 28 5 C n c Tryd.underlying28 Tryd.underlying5
  go_enter Tryd.func9, Tryd.ntmps9
  go_wp2_with fail
  refine hp.out.mono ?_
  rintro e w1 ⟨rfl, hb1⟩
  have hB1 := hb0.out.trans (hb1.mono hb0.out.size)
  have hq := Lib.hid (parse_any liveLine _ (hG.out.below hB1) (by decide))
  rw [live_parse] at hq
  go_wp2_with fail
  refine hq.out.mono ?_
  rintro e w2 ⟨dv, rfl, hown, hb2⟩
  have hB2 := hB1.trans (hb2.mono hB1.size)
  obtain ⟨a, c, rfl⟩ := (Rd.of_own (enc := byteV) hown).len
  have hcv : ∀ X : Obj, Sem.run Tryd.prog (convert 28 9 (.slice a liveOp.data.length c)) (w2.alloc X) = .ok (.string (S [104, 105])) (w2.alloc X) := fun X => convert_rd (P := Tryd.prog) Tryd.underlying28 Tryd.underlying5 Tryd.underlying9 ((Rd.of_own (enc := byteV) hown).below (W' := w2.alloc X) ((Below.refl _ _).alloc (Nat.le_refl _) _))
  go_wp2_with fail
  go_ret
  exact ⟨rfl, hB2.alloc hB2.size _⟩
end Go.Proofs.YtpoongljokbgcaaDoor
