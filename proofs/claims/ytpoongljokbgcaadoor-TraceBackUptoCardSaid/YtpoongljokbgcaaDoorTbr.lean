/- TraceBack: for every list of calls and every line whose bulk is at most 1048576 the law returns true, and the arguments read as they did. -/
import Derived.Test.YtpoongljokbgcaaDoorTbh
import Derived.Test.YtpoongljokbgcaaDoorTbi
import Derived.Test.YtpoongljokbgcaaDoorTbq
namespace Go.Proofs.YtpoongljokbgcaaDoor
open Go.ChangeShapes Go.WideShapes Go.ChangeAt Go.RowKit
set_option maxRecDepth 100000 in
set_option maxHeartbeats 4000000 in
theorem back_over (a : Option Addr) (n cap : Nat) (t : List UInt8) (w : World) (hG : Gl w) (h : 60 < n ∨ (n ≤ 60 ∧ 9000 < t.length)) :
    Calls Tryd.prog 5 #[.slice a n cap, .string (S t)] w fun e w' => e = .returned (.bool true) ∧ Below w.heap.size w w' := by
  have hLive := Lib.hid (live_any w hG)
  rcases h with h | ⟨h, h2⟩
  · have t1 : ((n : Int) > 60) := by omega
    go_enter Tryd.func5, Tryd.ntmps5
    go_wp2_with fail
    refine hLive.out.mono ?_
    rintro e w1 ⟨rfl, hb1⟩
    go_wp2_with fail
    go_ret
    exact ⟨rfl, hb1⟩
  · have t1 : ¬ ((n : Int) > 60) := by omega
    have t2 : ((t.length : Int) > 9000) := by omega
    go_enter Tryd.func5, Tryd.ntmps5
    go_wp2_with fail
    refine hLive.out.mono ?_
    rintro e w1 ⟨rfl, hb1⟩
    go_wp2_with fail
    go_ret
    exact ⟨rfl, hb1⟩
theorem back_any' (l : List Opr) (t : List UInt8) (a : Option Addr) (cap : Nat) (w : World) (hG : Gl w) (ho : ∀ o ∈ l, o.small) (hr : RdO w (.slice a l.length cap) l) :
    Calls Tryd.prog 5 #[.slice a l.length cap, .string (S t)] w fun e w' => e = .returned (.bool true) ∧ Below w.heap.size w w' := by
  by_cases h1 : 60 < l.length
  · exact back_over a _ cap t w hG (.inl h1)
  by_cases h2 : 9000 < t.length
  · exact back_over a _ cap t w hG (.inr ⟨by omega, h2⟩)
  exact back_main l t a cap w hG ho hr (by omega) (by omega)
namespace Back
def args0 : Array Value := #[.slice none 0 0, .string ⟨#[]⟩]
theorem laid_met (os : Os) : laidMet Tryd.prog Rows.traceBackUptoRow.laid ((laidWorld os).forCall (fun _ _ => 0) ⟨#[], args0, []⟩).memory :=
  laidMet_of_run' 8 (by kernel_rfl) (by kernel_rfl)
theorem reads (os : Os) {H : Type} (enc : TypeId × Value → H) : ∃ places, DataW.whole enc Tryd.prog ((laidWorld os).forCall (fun _ _ => 0) ⟨#[], args0, []⟩).memory Tryd.f5.params.toList Rows.traceBackSpec.vars false args0.toList 8 = some ([.nil, .lit (.string [])], [], places) :=
  ⟨[], by kernel_rfl⟩
set_option maxRecDepth 100000 in
theorem contract (H : Type) (enc : TypeId × Value → H) (W : World) (base : Nat) (args : Array Value) (ds gs : List (DataW H)) (before : List MemPlace)
    (hval : ∀ (j : Nat) t v, Tryd.f5.params[j]? = some t → args[j]? = some v → Value.okWide Tryd.prog W .any base t v)
    (hW : DataW.Whole enc Tryd.prog Tryd.f5.params.toList Rows.traceBackSpec.vars false W args.toList ds gs before) (hb : Rows.uptoSmall H (ds ++ gs) = true) (hG : Gl W) :
    Calls Tryd.prog 5 args W fun e W' => ∃ v, e = .returned v ∧ Rows.traceBackSpec.post enc Tryd.prog Tryd.f5 false true false false W args v W' := by
  have hW' := hW
  obtain ⟨p, q, hA0, hV, rfl, hfz, hnd⟩ := hW
  have hA : DataW.TrodAll enc Tryd.prog W 0 (fun _ => true) true Tryd.f5.params.toList args.toList ds p := hA0
  rw [Tryd.params5] at hA hval
  obtain ⟨v0, vs0, d0, ds0, p0, q0, hargs, rfl, rfl, h0, r0⟩ := trodAll_cons hA
  obtain ⟨v1, vs1, d1, ds1, p1, q1, rfl, rfl, rfl, h1, r1⟩ := trodAll_cons r0
  obtain ⟨rfl, rfl, rfl⟩ := trodAll_nil r1
  obtain rfl : args = #[v0, v1] := by cases args; simp_all
  obtain ⟨xs, a, cap, rfl, hr, hk⟩ := open_ops_arg (hval 0 42 v0 rfl rfl) h0
  obtain ⟨t, rfl, rfl, rfl, ht⟩ := Go.ChangeMaps.open_string Tryd.underlying9 (hval 1 9 v1 rfl rfl) h1
  have hfn : Rows.traceBackSpec.fn H [d0, .lit (.string t.data.toList)] = { results := [.lit (.bool true)], args := [d0, .lit (.string t.data.toList)] } := rfl
  refine contract_true (f := Tryd.f5) (s := Rows.traceBackSpec) laidOut rfl (by kernel_rfl) Tryd.underlying4 ?_ hfn hW' ?_
  · rw [Tryd.params5]
    intro t ht
    have ht' : t = 42 ∨ t = 9 := by simpa using ht
    rcases ht' with rfl | rfl
    · exact ⟨by kernel_rfl, of_decide_eq_true (by kernel_rfl)⟩
    · exact ⟨by kernel_rfl, of_decide_eq_true (by kernel_rfl)⟩
  · have hS : Value.string t = .string (S t.data.toList) := by unfold S; simp
    rw [hS]
    have hs : Rows.uptoBulkAll ([d0, .lit (.string t.data.toList)] ++ gs) ≤ 1048576 := of_decide_eq_true hb
    have hs2 : Rows.uptoBulk d0 ≤ 1048576 := by
      simp only [List.cons_append, Rows.uptoBulkAll] at hs
      omega
    refine back_any' xs t.data.toList a cap W hG (fun o ho => ?_) hr
    obtain ⟨k1, k2, k3, k4⟩ := hk o ho
    exact ⟨k1, by omega, by omega, by omega⟩
set_option maxRecDepth 100000 in
theorem lifted (os : Os) (started : os.Started) (H : Type) (enc : TypeId × Value → H) (F : Stop.Interp) :
    ReturnsInHanded {} Tryd.checked os 5 .any ((Rows.OpenSpec.upto Rows.traceBackSpec).preRow enc Tryd.prog Tryd.f5 Rows.traceBackUptoRow.domain false Rows.traceBackUptoRow.laid) (((Rows.OpenSpec.upto Rows.traceBackSpec).at F).post enc Tryd.prog Tryd.f5 false true false false) := by
  obtain ⟨places, hx⟩ := reads os enc
  refine returnsInHanded_of_row (C := Tryd.checked) (s := Rows.OpenSpec.upto Rows.traceBackSpec) own started (by kernel_rfl) Tryd.func5
    (witness_row_at (enc := enc) (C := Tryd.checked) false (laidWorld os) args0 rfl (by kernel_rfl) (by kernel_rfl) (by kernel_rfl)
      (OpenSpec.preRow_of_cond 8 hx (by kernel_rfl) (fun k hk => by cases hk; kernel_rfl) (by kernel_rfl) (laid_met os))) ?_
  intro W base args ds gs before hval hW _ hc _ _ hS _
  exact contract H enc W base args ds gs before hval hW (hc _ rfl) (gl_of hS)
theorem said : Rows.TraceBackUptoSaid :=
  OpenClaim.holds_of_cond 5 Tryd.f5 rfl rfl rfl rfl rfl rfl rfl ⟨rfl, rfl, rfl, rfl, rfl⟩ rfl rfl rfl rfl rfl (by kernel_rfl) Tryd.func5 (by kernel_rfl)
    (of_decide_eq_true (by kernel_rfl)) (by unfold Func.isWrapper; first | (rw [if_pos (by decide +kernel)]; kernel_rfl) | (rw [if_neg (by decide +kernel)]; exact ⟨rfl, rfl⟩))
    (fun os started H enc _ F => by rw [OpenClaim.pre_eq_preRow]; exact lifted os started H enc F)
theorem plain (f : FuncId) (fn : Func) (hf : Tryd.pinned.checked.prog.funcNamed "slipway/slipwaylaw27.TraceBack" = some f) (hfn : Tryd.pinned.checked.prog.funcs[f]? = some fn) :
    false = Tryd.pinned.checked.prog.looks [] ∧ ∀ (j : Nat) t, fn.params[j]? = some t → Tryd.pinned.checked.prog.wantsStandIn t = false := by
  obtain rfl : f = 5 := Option.some.inj ((show Tryd.prog.funcNamed "slipway/slipwaylaw27.TraceBack" = some 5 by kernel_rfl).symm.trans hf) |>.symm
  obtain rfl : fn = Tryd.f5 := (Option.some.inj (Tryd.func5.symm.trans hfn)).symm
  refine ⟨by kernel_rfl, fun j t ht => ?_⟩
  rw [Tryd.params5] at ht
  have ht' : t = 42 ∨ t = 9 := by simpa using Array.mem_of_getElem? ht
  rcases ht' with rfl | rfl
  · exact (show Tryd.prog.wantsStandIn 42 = false by kernel_rfl)
  · exact (show Tryd.prog.wantsStandIn 9 = false by kernel_rfl)
theorem card : Rows.TraceBackUptoCardSaid :=
  Claim7.holds_tied_plain_at .later [] _ _ _ _ said (fun _ h => by cases h) (by kernel_rfl) (fun _ h => by cases h) traceBackUpto_row_tie rfl ⟨rfl, rfl⟩ (by kernel_rfl) rfl plain (by kernel_rfl)
end Back
theorem traceBack_card : Rows.TraceBackUptoCardSaid := Back.card
#print axioms traceBack_card
end Go.Proofs.YtpoongljokbgcaaDoor
