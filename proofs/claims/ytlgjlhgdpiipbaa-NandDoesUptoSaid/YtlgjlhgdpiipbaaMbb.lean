/- NandDoes: for every geometry, bad blocks, events and calls of bulk at most 1048576 the law returns true, makes nothing but new blocks, and the arguments read as they did. -/
import Derived.Test.YtlgjlhgdpiipbaaMba
import Derived.Test.YtlgjlhgdpiipbaaMam
import Derived.LaidLaws
namespace Go.Proofs.Ytlgjlhgdpiipbaa
open Go.ChangeShapes Go.WideShapes Go.ChangeAt Go.RowKit
namespace DoesLaw
def args0 : Array Value := #[.agg #[.int .i64 0, .int .i64 0], .slice none 0 0, .slice none 0 0, .slice none 0 0]
theorem laid_met (os : Os) : laidMetH Try.prog Rows.nandDoesUptoRow.laid ((World.holding Try.prog os ⟨#[], #[], []⟩).forCall (fun _ _ => 0) ⟨#[], args0, []⟩).memory :=
  laidMetH_of_parts (laidMet_of_run' 8 (by kernel_rfl) (by kernel_rfl)) (by kernel_rfl)
theorem reads (os : Os) {H : Type} (enc : TypeId × Value → H) : ∃ places, DataW.whole enc Try.prog ((World.holding Try.prog os ⟨#[], #[], []⟩).forCall (fun _ _ => 0) ⟨#[], args0, []⟩).memory Try.f8.params.toList Rows.nandDoesSpec.vars false args0.toList 8 = some ([.agg [.lit (.int .i64 0), .lit (.int .i64 0)], .nil, .nil, .nil], [], places) :=
  ⟨[], by kernel_rfl⟩
set_option maxRecDepth 100000 in
theorem contract (H : Type) (enc : TypeId × Value → H) (W : World) (base : Nat) (args : Array Value) (ds gs : List (DataW H)) (before : List MemPlace)
    (hval : ∀ (j : Nat) t v, Try.f8.params[j]? = some t → args[j]? = some v → Value.okWide Try.prog W .any base t v)
    (hW : DataW.Whole enc Try.prog Try.f8.params.toList Rows.nandDoesSpec.vars false W args.toList ds gs before) (hb : Rows.uptoSmall H (ds ++ gs) = true) :
    Calls Try.prog 8 args W fun e W' => ∃ v, e = .returned v ∧ Rows.nandDoesSpec.post enc Try.prog Try.f8 false true false false W args v W' := by
  have hW' := hW
  obtain ⟨p, q, hA0, hV, rfl, hfz, hnd⟩ := hW
  have hA : DataW.TrodAll enc Try.prog W 0 (fun _ => true) true Try.f8.params.toList args.toList ds p := hA0
  rw [Try.params8] at hA hval
  obtain ⟨v0, v1, v2, v3, d0, d1, d2, d3, p0, p1, p2, p3, rfl, rfl, rfl, h0, h1, h2, h3⟩ := trodAll_four hA
  obtain ⟨bn, pn, rfl⟩ := open_geo (hval 0 23 v0 rfl rfl) h0
  obtain ⟨bad, hbad, hbl⟩ := open_nums (hval 1 24 v1 rfl rfl) h1
  obtain ⟨evs, hev⟩ := open_evs (fun _ => rfl) (hval 2 25 v2 rfl rfl) h2
  obtain ⟨cs, hcs⟩ := open_calls (hval 3 37 v3 rfl rfl) h3
  have hbk := evs_bulk hev h2
  have hs : Rows.uptoBulkAll ([d0, d1, d2, d3] ++ gs) ≤ 1048576 := of_decide_eq_true hb
  have hl : evs.length ≤ 1048576 := by
    refine Nat.le_trans hbk (Nat.le_trans ?_ hs)
    simp only [List.cons_append, Rows.uptoBulkAll]
    omega
  have hfn : Rows.nandDoesSpec.fn H [d0, d1, d2, d3] = { results := [.lit (.bool true)], args := [d0, d1, d2, d3] } := rfl
  refine contract_true (f := Try.f8) (s := Rows.nandDoesSpec) laidOut rfl (by kernel_rfl) Try.underlying4 ?_ hfn hW' ?_
  · rw [Try.params8]
    intro t ht
    have ht' : t = 23 ∨ t = 24 ∨ t = 25 ∨ t = 37 := by simpa using ht
    rcases ht' with rfl | rfl | rfl | rfl
    · exact ⟨by kernel_rfl, of_decide_eq_true (by kernel_rfl)⟩
    · exact ⟨by kernel_rfl, of_decide_eq_true (by kernel_rfl)⟩
    · exact ⟨by kernel_rfl, of_decide_eq_true (by kernel_rfl)⟩
    · exact ⟨by kernel_rfl, of_decide_eq_true (by kernel_rfl)⟩
  · exact ndoes_any bn pn bad evs cs v1 v2 v3 W hbad hev hcs hbl hl
set_option maxRecDepth 100000 in
theorem lifted (os : Os) (started : os.Started) (H : Type) (enc : TypeId × Value → H) (F : Stop.Interp) :
    ReturnsInHanded {} Try.checked os 8 .any ((Rows.OpenSpec.upto Rows.nandDoesSpec).preRow enc Try.prog Try.f8 Rows.nandDoesUptoRow.domain false Rows.nandDoesUptoRow.laid) (((Rows.OpenSpec.upto Rows.nandDoesSpec).at F).post enc Try.prog Try.f8 false true false false) := by
  obtain ⟨places, hx⟩ := reads os enc
  refine returnsInHanded_of_row (C := Try.checked) (s := (Rows.OpenSpec.upto Rows.nandDoesSpec)) own started (by kernel_rfl) Try.func8
    (witness_row_at (enc := enc) (C := Try.checked) false (World.holding Try.prog os ⟨#[], #[], []⟩) args0 rfl (by kernel_rfl) (by kernel_rfl) (by kernel_rfl)
      (OpenSpec.preRow_of_cond 8 hx (by kernel_rfl) (fun k hk => by cases hk; kernel_rfl) (by kernel_rfl) (laid_met os))) ?_
  intro W base args ds gs before hval hW _ hc _ _ _ _
  exact contract H enc W base args ds gs before hval hW (hc _ rfl)
theorem said : Rows.NandDoesUptoSaid :=
  OpenClaim.holds_of_cond 8 Try.f8 rfl rfl rfl rfl rfl rfl rfl ⟨rfl, rfl, rfl, rfl, rfl⟩ rfl rfl rfl rfl rfl (by kernel_rfl) Try.func8 (by kernel_rfl)
    (of_decide_eq_true (by kernel_rfl)) (by unfold Func.isWrapper; first | (rw [if_pos (by decide +kernel)]; kernel_rfl) | (rw [if_neg (by decide +kernel)]; exact ⟨rfl, rfl⟩))
    (fun os started H enc _ F => by rw [OpenClaim.pre_eq_preRow]; exact lifted os started H enc F)
end DoesLaw
theorem nandDoes_upto : Rows.NandDoesUptoSaid := DoesLaw.said
#print axioms nandDoes_upto
end Go.Proofs.Ytlgjlhgdpiipbaa
