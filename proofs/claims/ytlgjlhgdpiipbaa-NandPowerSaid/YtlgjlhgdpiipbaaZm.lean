/- NandPower: for every geometry, calls, calls behind them and block the law returns true, makes nothing but new blocks, and the arguments read as they did. No condition beyond the row's own. -/
import Derived.Test.YtlgjlhgdpiipbaaZl
import Derived.Test.YtlgjlhgdpiipbaaZj
import Derived.LaidLaws
namespace Go.Proofs.Ytlgjlhgdpiipbaa
open Go.ChangeShapes Go.WideShapes Go.ChangeAt Go.RowKit
namespace PowerLaw
def args0 : Array Value := #[.agg #[.int .i64 0, .int .i64 0], .slice none 0 0, .slice none 0 0, .int .i64 0]
theorem laid_met (os : Os) : laidMetH Try.prog Rows.nandPowerRow.laid ((World.holding Try.prog os ⟨#[], #[], []⟩).forCall (fun _ _ => 0) ⟨#[], args0, []⟩).memory :=
  laidMetH_of_parts (laidMet_of_run' 8 (by kernel_rfl) (by kernel_rfl)) (by kernel_rfl)
theorem reads (os : Os) {H : Type} (enc : TypeId × Value → H) : ∃ places, DataW.whole enc Try.prog ((World.holding Try.prog os ⟨#[], #[], []⟩).forCall (fun _ _ => 0) ⟨#[], args0, []⟩).memory Try.f7.params.toList Rows.nandPowerSpec.vars false args0.toList 8 = some ([.agg [.lit (.int .i64 0), .lit (.int .i64 0)], .nil, .nil, .lit (.int .i64 0)], [], places) :=
  ⟨[], by kernel_rfl⟩
set_option maxRecDepth 100000 in
theorem contract (H : Type) (enc : TypeId × Value → H) (W : World) (base : Nat) (args : Array Value) (ds gs : List (DataW H)) (before : List MemPlace)
    (hval : ∀ (j : Nat) t v, Try.f7.params[j]? = some t → args[j]? = some v → Value.okWide Try.prog W .any base t v)
    (hW : DataW.Whole enc Try.prog Try.f7.params.toList Rows.nandPowerSpec.vars false W args.toList ds gs before) :
    Calls Try.prog 7 args W fun e W' => ∃ v, e = .returned v ∧ Rows.nandPowerSpec.post enc Try.prog Try.f7 false true false false W args v W' := by
  have hW' := hW
  obtain ⟨p, q, hA0, hV, rfl, hfz, hnd⟩ := hW
  have hA : DataW.TrodAll enc Try.prog W 0 (fun _ => true) true Try.f7.params.toList args.toList ds p := hA0
  rw [Try.params7] at hA hval
  obtain ⟨v0, v1, v2, v3, d0, d1, d2, d3, p0, p1, p2, p3, rfl, rfl, rfl, h0, h1, h2, h3⟩ := trodAll_four hA
  obtain ⟨bn, pn, rfl⟩ := open_geo (hval 0 23 v0 rfl rfl) h0
  obtain ⟨cs, hcs⟩ := open_calls (hval 1 37 v1 rfl rfl) h1
  obtain ⟨bs, hbs⟩ := open_calls (hval 2 37 v2 rfl rfl) h2
  obtain ⟨block, rfl⟩ := open_int (hval 3 3 v3 rfl rfl)
  have hl1 := calls_len hcs h1
  have hfn : Rows.nandPowerSpec.fn H [d0, d1, d2, d3] = { results := [.lit (.bool true)], args := [d0, d1, d2, d3] } := rfl
  refine contract_true (f := Try.f7) (s := Rows.nandPowerSpec) laidOut rfl (by kernel_rfl) Try.underlying4 ?_ hfn hW' ?_
  · rw [Try.params7]
    intro t ht
    have ht' : t = 23 ∨ t = 37 ∨ t = 37 ∨ t = 3 := by simpa using ht
    rcases ht' with rfl | rfl | rfl | rfl
    · exact ⟨by kernel_rfl, of_decide_eq_true (by kernel_rfl)⟩
    · exact ⟨by kernel_rfl, of_decide_eq_true (by kernel_rfl)⟩
    · exact ⟨by kernel_rfl, of_decide_eq_true (by kernel_rfl)⟩
    · exact ⟨by kernel_rfl, of_decide_eq_true (by kernel_rfl)⟩
  · exact power_any bn pn cs bs v1 v2 block W hcs hbs hl1
set_option maxRecDepth 100000 in
theorem lifted (os : Os) (started : os.Started) (H : Type) (enc : TypeId × Value → H) (F : Stop.Interp) :
    ReturnsInHanded {} Try.checked os 7 .any ((OpenSpec.ofChange Rows.nandPowerSpec).preRow enc Try.prog Try.f7 Rows.nandPowerRow.domain false Rows.nandPowerRow.laid) (((OpenSpec.ofChange Rows.nandPowerSpec).at F).post enc Try.prog Try.f7 false true false false) := by
  obtain ⟨places, hx⟩ := reads os enc
  refine returnsInHanded_of_row (C := Try.checked) (s := (OpenSpec.ofChange Rows.nandPowerSpec)) own started (by kernel_rfl) Try.func7
    (witness_row_at (enc := enc) (C := Try.checked) false (World.holding Try.prog os ⟨#[], #[], []⟩) args0 rfl (by kernel_rfl) (by kernel_rfl) (by kernel_rfl)
      (OpenSpec.preRow_of_cond 8 hx (by kernel_rfl) (fun k hk => by cases hk) (by kernel_rfl) (laid_met os))) ?_
  intro W base args ds gs before hval hW _ _ _ _ _ _
  exact contract H enc W base args ds gs before hval hW
theorem said : Rows.NandPowerSaid :=
  OpenClaim.holds_of_cond 7 Try.f7 rfl rfl rfl rfl rfl rfl rfl ⟨rfl, rfl, rfl, rfl, rfl⟩ rfl rfl rfl rfl rfl (by kernel_rfl) Try.func7 (by kernel_rfl)
    (of_decide_eq_true (by kernel_rfl)) (by unfold Func.isWrapper; first | (rw [if_pos (by decide +kernel)]; kernel_rfl) | (rw [if_neg (by decide +kernel)]; exact ⟨rfl, rfl⟩))
    (fun os started H enc _ F => by rw [OpenClaim.pre_eq_preRow]; exact lifted os started H enc F)
end PowerLaw
theorem nandPower_said : Rows.NandPowerSaid := PowerLaw.said
#print axioms nandPower_said
end Go.Proofs.Ytlgjlhgdpiipbaa
