/- NandNone: for every call the law returns true, makes nothing but new blocks, and the argument reads as it did. No condition beyond the row's own. -/
import Derived.Test.YtlgjlhgdpiipbaaZl
import Derived.Test.YtlgjlhgdpiipbaaZu
import Derived.LaidLaws
namespace Go.Proofs.Ytlgjlhgdpiipbaa
open Go.ChangeShapes Go.WideShapes Go.ChangeAt Go.RowKit
namespace NoneLaw
def args0 : Array Value := #[.agg #[.int .i64 0, .int .i64 0, .int .i64 0, .bool false, .int .u8 0]]
theorem laid_met (os : Os) : laidMetH Try.prog Rows.nandNoneRow.laid ((World.holding Try.prog os ⟨#[], #[], []⟩).forCall (fun _ _ => 0) ⟨#[], args0, []⟩).memory :=
  laidMetH_of_parts (laidMet_of_run' 8 (by kernel_rfl) (by kernel_rfl)) (by kernel_rfl)
theorem reads (os : Os) {H : Type} (enc : TypeId × Value → H) : ∃ places, DataW.whole enc Try.prog ((World.holding Try.prog os ⟨#[], #[], []⟩).forCall (fun _ _ => 0) ⟨#[], args0, []⟩).memory Try.f9.params.toList Rows.nandNoneSpec.vars false args0.toList 8 = some ([.agg [.lit (.int .i64 0), .lit (.int .i64 0), .lit (.int .i64 0), .lit (.bool false), .lit (.int .u8 0)]], [], places) :=
  ⟨[], by kernel_rfl⟩
set_option maxRecDepth 100000 in
theorem contract (H : Type) (enc : TypeId × Value → H) (W : World) (base : Nat) (args : Array Value) (ds gs : List (DataW H)) (before : List MemPlace)
    (hval : ∀ (j : Nat) t v, Try.f9.params[j]? = some t → args[j]? = some v → Value.okWide Try.prog W .any base t v)
    (hW : DataW.Whole enc Try.prog Try.f9.params.toList Rows.nandNoneSpec.vars false W args.toList ds gs before) :
    Calls Try.prog 9 args W fun e W' => ∃ v, e = .returned v ∧ Rows.nandNoneSpec.post enc Try.prog Try.f9 false true false false W args v W' := by
  have hW' := hW
  obtain ⟨p, q, hA0, hV, rfl, hfz, hnd⟩ := hW
  have hA : DataW.TrodAll enc Try.prog W 0 (fun _ => true) true Try.f9.params.toList args.toList ds p := hA0
  rw [Try.params9] at hA hval
  obtain ⟨v0, d0, rfl, rfl, h0⟩ := trodAll_one hA
  obtain ⟨q, rfl⟩ := open_call (hval 0 40 v0 rfl rfl) h0
  have hfn : Rows.nandNoneSpec.fn H [d0] = { results := [.lit (.bool true)], args := [d0] } := rfl
  refine contract_true (f := Try.f9) (s := Rows.nandNoneSpec) laidOut rfl (by kernel_rfl) Try.underlying4 ?_ hfn hW' ?_
  · rw [Try.params9]
    intro t ht
    have ht' : t = 40 := by simpa using ht
    subst ht'
    · exact ⟨by kernel_rfl, of_decide_eq_true (by kernel_rfl)⟩
  · exact none_any q W
set_option maxRecDepth 100000 in
theorem lifted (os : Os) (started : os.Started) (H : Type) (enc : TypeId × Value → H) (F : Stop.Interp) :
    ReturnsInHanded {} Try.checked os 9 .any ((OpenSpec.ofChange Rows.nandNoneSpec).preRow enc Try.prog Try.f9 Rows.nandNoneRow.domain false Rows.nandNoneRow.laid) (((OpenSpec.ofChange Rows.nandNoneSpec).at F).post enc Try.prog Try.f9 false true false false) := by
  obtain ⟨places, hx⟩ := reads os enc
  refine returnsInHanded_of_row (C := Try.checked) (s := (OpenSpec.ofChange Rows.nandNoneSpec)) own started (by kernel_rfl) Try.func9
    (witness_row_at (enc := enc) (C := Try.checked) false (World.holding Try.prog os ⟨#[], #[], []⟩) args0 rfl (by kernel_rfl) (by kernel_rfl) (by kernel_rfl)
      (OpenSpec.preRow_of_cond 8 hx (by kernel_rfl) (fun k hk => by cases hk) (by kernel_rfl) (laid_met os))) ?_
  intro W base args ds gs before hval hW _ _ _ _ _ _
  exact contract H enc W base args ds gs before hval hW
theorem said : Rows.NandNoneSaid :=
  OpenClaim.holds_of_cond 9 Try.f9 rfl rfl rfl rfl rfl rfl rfl ⟨rfl, rfl, rfl, rfl, rfl⟩ rfl rfl rfl rfl rfl (by kernel_rfl) Try.func9 (by kernel_rfl)
    (of_decide_eq_true (by kernel_rfl)) (by unfold Func.isWrapper; first | (rw [if_pos (by decide +kernel)]; kernel_rfl) | (rw [if_neg (by decide +kernel)]; exact ⟨rfl, rfl⟩))
    (fun os started H enc _ F => by rw [OpenClaim.pre_eq_preRow]; exact lifted os started H enc F)
end NoneLaw
theorem nandNone_said : Rows.NandNoneSaid := NoneLaw.said
#print axioms nandNone_said
end Go.Proofs.Ytlgjlhgdpiipbaa
