/- TraceCalls: for every two calls and every line the law returns true, makes nothing but new blocks, and the arguments read as they did. No condition beyond the row's own: the tables that it lists hold what the program's text lays. -/
import Derived.Test.YtpoongljokbgcaaDoorBs
namespace Go.Proofs.YtpoongljokbgcaaDoor
open Go.ChangeShapes Go.WideShapes Go.ChangeAt Go.RowKit
set_option maxRecDepth 100000 in
set_option maxHeartbeats 4000000 in
theorem calls_early (o o2 : Opr) (line : List UInt8) (dv du : Value) (w : World) (hG : Gl w) (hpl : o.path.length ≤ 140737488351232) (hdl : o.dest.length ≤ 140737488351232)
    (h : 5000 < o.path.length + o.dest.length ∨ (o.path.length + o.dest.length ≤ 5000 ∧ 9000 < line.length)) :
    Calls Tryd.prog 6 #[opV o dv, opV o2 du, .string (S line)] w fun e w' => e = .returned (.bool true) ∧ Below w.heap.size w w' := by
  have hLive := Lib.hid (fun W hG => live_any W hG)
  obtain ⟨k, p, t, f, n, l⟩ := o
  obtain ⟨k2, p2, t2, f2, n2, l2⟩ := o2
  dsimp only at *
  unfold opV at *
  dsimp only at *
  replace hG := Lib.hid hG
  have hB0 : Below w.heap.size w ((w.alloc (.cells #[.int .i64 k, .string (S p), .string (S t), .int .i64 f, .int .i64 n, dv] 44)).alloc (.cells #[.int .i64 k2, .string (S p2), .string (S t2), .int .i64 f2, .int .i64 n2, du] 44)) := ((Below.refl _ _).alloc (Nat.le_refl _) _).alloc (by rw [World.size_alloc]; omega) _
  have hX1 := (Box.new w 44 #[.int .i64 k, .string (S p), .string (S t), .int .i64 f, .int .i64 n, dv]).alloc (.cells #[.int .i64 k2, .string (S p2), .string (S t2), .int .i64 f2, .int .i64 n2, du] 44)
  rcases h with h | ⟨h, h9⟩
  · have t1 : ((p.length : Int) + (t.length : Int) > 5000) := by omega
    clear h
    go_enter Tryd.func6, Tryd.ntmps6
    go_wp2_with fail
    generalize ((w.alloc (.cells #[.int .i64 k, .string (S p), .string (S t), .int .i64 f, .int .i64 n, dv] 44)).alloc (.cells #[.int .i64 k2, .string (S p2), .string (S t2), .int .i64 f2, .int .i64 n2, du] 44)) = W0 at hB0 hX1 ⊢
    replace hB0 := Lib.hid hB0
    replace hX1 := Lib.hid hX1
    refine (hLive.out _ (hG.out.below hB0.out)).mono ?_
    rintro e w1 ⟨rfl, hb1⟩
    have bB1 := Lib.hid (hB0.out.trans (hb1.mono hB0.out.size))
    have bX1 := hX1.out.below hb1
    have c1 := bX1.get 1 _ rfl
    have c2 := bX1.get 2 _ rfl
    clear hb1 bX1 hB0 hX1
    go_wp2_with fail
    go_ret
    exact ⟨rfl, bB1.out⟩
  · have t1 : ¬ ((p.length : Int) + (t.length : Int) > 5000) := by omega
    have t2' : ¬ ((p.length : Int) > 5000) := by omega
    have t3 : ((line.length : Int) > 9000) := by omega
    clear h h9
    go_enter Tryd.func6, Tryd.ntmps6
    go_wp2_with fail
    generalize ((w.alloc (.cells #[.int .i64 k, .string (S p), .string (S t), .int .i64 f, .int .i64 n, dv] 44)).alloc (.cells #[.int .i64 k2, .string (S p2), .string (S t2), .int .i64 f2, .int .i64 n2, du] 44)) = W0 at hB0 hX1 ⊢
    replace hB0 := Lib.hid hB0
    replace hX1 := Lib.hid hX1
    refine (hLive.out _ (hG.out.below hB0.out)).mono ?_
    rintro e w1 ⟨rfl, hb1⟩
    have bB1 := Lib.hid (hB0.out.trans (hb1.mono hB0.out.size))
    have bX1 := hX1.out.below hb1
    have c1 := bX1.get 1 _ rfl
    have c2 := bX1.get 2 _ rfl
    clear hb1 bX1 hB0 hX1
    go_wp2_with fail
    go_ret
    exact ⟨rfl, bB1.out⟩
theorem calls_any (o o2 : Opr) (line : List UInt8) (dv du : Value) (w : World) (hG : Gl w) (hP : Pw w) (ho : o.ok) (ho2 : o2.ok) (hr : RdB w dv o.data) (hu : RdB w du o2.data)
    (hpl : o.path.length ≤ 140737488351232) (hdl : o.dest.length ≤ 140737488351232) (hd : o.data.length ≤ 140737488351232) (hd2 : o2.data.length ≤ 140737488351232) :
    Calls Tryd.prog 6 #[opV o dv, opV o2 du, .string (S line)] w fun e w' => e = .returned (.bool true) ∧ Below w.heap.size w w' := by
  by_cases h5 : 5000 < o.path.length + o.dest.length
  · exact calls_early o o2 line dv du w hG hpl hdl (.inl h5)
  by_cases h9 : 9000 < line.length
  · exact calls_early o o2 line dv du w hG hpl hdl (.inr ⟨by omega, h9⟩)
  exact calls_main o o2 line dv du w hG hP ho ho2 hr hu (by omega) (by omega) (by omega) (by omega) (by omega)
namespace CallsLaw
def args0 : Array Value := #[.agg zero44, .agg zero44, .string ⟨#[]⟩]
def d0 {H : Type} : DataW H := .agg [.lit (.int .i64 0), .lit (.string []), .lit (.string []), .lit (.int .i64 0), .lit (.int .i64 0), .nil]
theorem laid_met (os : Os) : laidMet Tryd.prog Rows.traceCallsRow.laid ((laidWorld os).forCall (fun _ _ => 0) ⟨#[], args0, []⟩).memory :=
  laidMet_of_run' 8 (by kernel_rfl) (by kernel_rfl)
theorem reads (os : Os) {H : Type} (enc : TypeId × Value → H) : ∃ places, DataW.whole enc Tryd.prog ((laidWorld os).forCall (fun _ _ => 0) ⟨#[], args0, []⟩).memory Tryd.f6.params.toList Rows.traceCallsSpec.vars false args0.toList 8 = some ([d0, d0, .lit (.string [])], [], places) :=
  ⟨[], by kernel_rfl⟩
set_option maxRecDepth 100000 in
theorem contract (H : Type) (enc : TypeId × Value → H) (W : World) (base : Nat) (args : Array Value) (ds gs : List (DataW H)) (before : List MemPlace)
    (hval : ∀ (j : Nat) t v, Tryd.f6.params[j]? = some t → args[j]? = some v → Value.okWide Tryd.prog W .any base t v)
    (hW : DataW.Whole enc Tryd.prog Tryd.f6.params.toList Rows.traceCallsSpec.vars false W args.toList ds gs before)
    (hwt : ∀ (j : Nat) (t : TypeId) (d : DataW H), Tryd.f6.params.toList[j]? = some t → ds[j]? = some d → ∀ n ∈ d.weights Tryd.prog t, n ≤ reachBytes) (hG : Gl W) (hP : Pw W) :
    Calls Tryd.prog 6 args W fun e W' => ∃ v, e = .returned v ∧ Rows.traceCallsSpec.post enc Tryd.prog Tryd.f6 false true false false W args v W' := by
  have hW' := hW
  obtain ⟨p, q, hA0, hV, rfl, hfz, hnd⟩ := hW
  have hA : DataW.TrodAll enc Tryd.prog W 0 (fun _ => true) true Tryd.f6.params.toList args.toList ds p := hA0
  rw [Tryd.params6] at hA hval hwt
  obtain ⟨v0, v1, v2, d0, d1, d2, p0, p1, p2, rfl, rfl, rfl, h0, h1, h2⟩ := trodAll_three hA
  obtain ⟨o, dv, rfl, ho, hr, hw⟩ := open_op (fun _ => rfl) (hval 0 44 v0 rfl rfl) h0
  obtain ⟨o2, du, rfl, ho2, hu, hw2⟩ := open_op (fun _ => rfl) (hval 1 44 v1 rfl rfl) h1
  obtain ⟨s, rfl, rfl, rfl, hs⟩ := Go.ChangeMaps.open_string Tryd.underlying9 (hval 2 9 v2 rfl rfl) h2
  have b1 := hw reachBytes (hwt 0 44 d0 rfl rfl)
  have b2 := hw2 reachBytes (hwt 1 44 d1 rfl rfl)
  have hR : reachBytes = 140737488351232 := by decide
  rw [hR] at b1 b2
  have hfn : Rows.traceCallsSpec.fn H [d0, d1, .lit (.string s.data.toList)] = { results := [.lit (.bool true)], args := [d0, d1, .lit (.string s.data.toList)] } := rfl
  refine contract_true (f := Tryd.f6) (s := Rows.traceCallsSpec) laidOut rfl (by kernel_rfl) Tryd.underlying4 ?_ hfn hW' ?_
  · rw [Tryd.params6]
    intro t ht
    have ht' : t = 44 ∨ t = 9 := by simpa using ht
    rcases ht' with rfl | rfl
    · exact ⟨by kernel_rfl, of_decide_eq_true (by kernel_rfl)⟩
    · exact ⟨by kernel_rfl, of_decide_eq_true (by kernel_rfl)⟩
  · have hS : Value.string s = .string (S s.data.toList) := by unfold S; simp
    rw [hS]
    exact calls_any o o2 s.data.toList dv du W hG hP ho ho2 hr hu b1.1 b1.2.1 b1.2.2 b2.2.2
set_option maxRecDepth 100000 in
theorem lifted (os : Os) (started : os.Started) (H : Type) (enc : TypeId × Value → H) (F : Stop.Interp) :
    ReturnsInHanded {} Tryd.checked os 6 .any ((OpenSpec.ofChange Rows.traceCallsSpec).preRow enc Tryd.prog Tryd.f6 Rows.traceCallsRow.domain false Rows.traceCallsRow.laid) (((OpenSpec.ofChange Rows.traceCallsSpec).at F).post enc Tryd.prog Tryd.f6 false true false false) := by
  obtain ⟨places, hx⟩ := reads os enc
  refine returnsInHanded_of_row (C := Tryd.checked) (s := OpenSpec.ofChange Rows.traceCallsSpec) own started (by kernel_rfl) Tryd.func6
    (witness_row_at (enc := enc) (C := Tryd.checked) false (laidWorld os) args0 rfl (by kernel_rfl) (by kernel_rfl) (by kernel_rfl)
      (OpenSpec.preRow_of_cond 8 hx (by kernel_rfl) (fun k hk => by cases hk) (by kernel_rfl) (laid_met os))) ?_
  intro W base args ds gs before hval hW _ _ hz hl hS _
  refine contract H enc W base args ds gs before hval hW (fun j t d ht hd n hn => ?_) (gl_of hS) (pow_of (laid := Rows.traceCallsRow.laid) (by simp [Rows.traceCallsRow]) (by kernel_rfl) hl)
  have := List.all_eq_true.1 hz n (DataW.weights_mem_each (j := j) (t := t) (d := d) (by rw [List.getElem?_append_left (List.getElem?_eq_some_iff.1 ht).1]; exact ht) (by rw [List.getElem?_append_left (List.getElem?_eq_some_iff.1 hd).1]; exact hd) n hn)
  simpa using this
theorem said : Rows.TraceCallsSaid :=
  OpenClaim.holds_of_cond 6 Tryd.f6 rfl rfl rfl rfl rfl rfl rfl ⟨rfl, rfl, rfl, rfl, rfl⟩ rfl rfl rfl rfl rfl (by kernel_rfl) Tryd.func6 (by kernel_rfl)
    (of_decide_eq_true (by kernel_rfl)) (by unfold Func.isWrapper; first | (rw [if_pos (by decide +kernel)]; kernel_rfl) | (rw [if_neg (by decide +kernel)]; exact ⟨rfl, rfl⟩))
    (fun os started H enc _ F => by rw [OpenClaim.pre_eq_preRow]; exact lifted os started H enc F)
theorem plain (f : FuncId) (fn : Func) (hf : Tryd.pinned.checked.prog.funcNamed "slipway/slipwaylaw27.TraceCalls" = some f) (hfn : Tryd.pinned.checked.prog.funcs[f]? = some fn) :
    false = Tryd.pinned.checked.prog.looks [] ∧ ∀ (j : Nat) t, fn.params[j]? = some t → Tryd.pinned.checked.prog.wantsStandIn t = false := by
  obtain rfl : f = 6 := Option.some.inj ((show Tryd.prog.funcNamed "slipway/slipwaylaw27.TraceCalls" = some 6 by kernel_rfl).symm.trans hf) |>.symm
  obtain rfl : fn = Tryd.f6 := (Option.some.inj (Tryd.func6.symm.trans hfn)).symm
  refine ⟨by kernel_rfl, fun j t ht => ?_⟩
  rw [Tryd.params6] at ht
  have ht' : t = 44 ∨ t = 9 := by simpa using Array.mem_of_getElem? ht
  rcases ht' with rfl | rfl
  · exact (show Tryd.prog.wantsStandIn 44 = false by kernel_rfl)
  · exact (show Tryd.prog.wantsStandIn 9 = false by kernel_rfl)
theorem card : Rows.TraceCallsCardSaid :=
  Claim7.holds_tied_plain_at .later [] _ _ _ _ said (fun _ h => by cases h) (by kernel_rfl) (fun _ h => by cases h) traceCalls_row_tie rfl ⟨rfl, rfl⟩ (by kernel_rfl) rfl plain (by kernel_rfl)
end CallsLaw
theorem traceCalls_card : Rows.TraceCallsCardSaid := CallsLaw.card
#print axioms traceCalls_card
end Go.Proofs.YtpoongljokbgcaaDoor
