/- TraceSaid: for every kind and answer whose bulk is at most 1048576 the law returns true, and the arguments read as they did. -/
import Derived.Test.YtpoongljokbgcaaDoorAp
import Derived.Test.YtpoongljokbgcaaDoorAo
import Derived.Test.YtpoongljokbgcaaDoorY
namespace Go.Proofs.YtpoongljokbgcaaDoor
open Go.ChangeShapes Go.WideShapes Go.ChangeAt Go.RowKit
set_option maxRecDepth 100000 in
theorem open_res {H : Type} {enc : TypeId × Value → H} {W : World} {base b0 : Nat} {r : Reach} {sp : Nat → Bool} {held : Bool} {v : Value} {d : DataW H} {p : List MemPlace} (hsp : ∀ b, sp b = true)
    (hv : Value.okWide Tryd.prog W r b0 33 v) (h : DataW.Trod enc Tryd.prog W base sp held 33 v d p) :
    ∃ (er : Int) (l : List UInt8) (kd ln sz : Int) (xs : List Ent) (da : Option Addr) (dc : Nat) (la : Option Addr) (lc : Nat),
      v = .agg #[.int .i64 er, .slice da l.length dc, .int .i64 kd, .int .i64 ln, .int .i64 sz, .slice la xs.length lc] ∧ Res.ok ⟨er, l, kd, ln, sz, xs⟩ ∧
      RdB W (.slice da l.length dc) l ∧ RdE W (.slice la xs.length lc) xs ∧ (xs.map fun e => e.name.length + 4).sum ≤ Rows.uptoBulk d := by
  have h33 : Tryd.prog.cellsOf 33 = 6 := by kernel_rfl
  have h23 : Tryd.prog.cellsOf 23 = 1 := by kernel_rfl
  have h28 : Tryd.prog.cellsOf 28 = 1 := by kernel_rfl
  have h30 : Tryd.prog.cellsOf 30 = 3 := by kernel_rfl
  have h31 : Tryd.prog.cellsOf 31 = 1 := by kernel_rfl
  have h3 : Tryd.prog.cellsOf 3 = 1 := by kernel_rfl
  have h2 : Tryd.prog.cellsOf 2 = 1 := by kernel_rfl
  obtain ⟨cs, rfl, hsz⟩ := okWide_struct Tryd.underlying33 hv
  obtain ⟨fuel, hf⟩ := h
  obtain ⟨ys, n, _, hy, _, hyl, hg⟩ := DataW.trod_struct Tryd.underlying33 hf
  obtain ⟨cl⟩ := cs
  match cl, hsz.trans h33, ys, hyl with
  | [c0, c1, c2, c3, c4, c5], _, [y0, y1, y2, y3], _ =>
  have q0 : DataW.trod enc Tryd.prog W base sp held n 23 (([c0, c1, c2, c3, c4, c5].drop 0).take (Tryd.prog.cellsOf 23)) = some y0 := hg 0 _ rfl
  have q1 : DataW.trod enc Tryd.prog W base sp held n 28 (([c0, c1, c2, c3, c4, c5].drop 1).take (Tryd.prog.cellsOf 28)) = some y1 := hg 1 _ rfl
  have q2 : DataW.trod enc Tryd.prog W base sp held n 30 (([c0, c1, c2, c3, c4, c5].drop 2).take (Tryd.prog.cellsOf 30)) = some y2 := hg 2 _ rfl
  have q3 : DataW.trod enc Tryd.prog W base sp held n 31 (([c0, c1, c2, c3, c4, c5].drop 5).take (Tryd.prog.cellsOf 31)) = some y3 := hg 3 _ rfl
  rw [h23] at q0
  rw [h28] at q1
  rw [h30] at q2
  rw [h31] at q3
  obtain ⟨er, e0, r0, w0⟩ := DataW.trod_int Tryd.underlying23 q0
  obtain rfl : c0 = .int .i64 er := by simpa using e0
  obtain ⟨l, da, dc, e1, hd⟩ := open_bytes hsp q1
  obtain ⟨xs, la, lc, e5, hl, hk, hb⟩ := open_ents q3
  obtain ⟨zs, m, _, hz, _, hzl, hs⟩ := DataW.trod_struct Tryd.underlying30 q2
  match zs, hzl with
  | [z0, z1, z2], _ =>
  have s0 : DataW.trod enc Tryd.prog W base sp held m 3 (([c2, c3, c4].drop 0).take (Tryd.prog.cellsOf 3)) = some z0 := hs 0 _ rfl
  have s1 : DataW.trod enc Tryd.prog W base sp held m 3 (([c2, c3, c4].drop 1).take (Tryd.prog.cellsOf 3)) = some z1 := hs 1 _ rfl
  have s2 : DataW.trod enc Tryd.prog W base sp held m 2 (([c2, c3, c4].drop 2).take (Tryd.prog.cellsOf 2)) = some z2 := hs 2 _ rfl
  rw [h3] at s0 s1
  rw [h2] at s2
  obtain ⟨kd, e2, _, w2⟩ := DataW.trod_int Tryd.underlying3 s0
  obtain ⟨ln, e3, _, w3⟩ := DataW.trod_int Tryd.underlying3 s1
  obtain ⟨sz, e4, _, w4⟩ := DataW.trod_int Tryd.underlying2 s2
  obtain rfl : c2 = .int .i64 kd := by simpa using e2
  obtain rfl : c3 = .int .i64 ln := by simpa using e3
  obtain rfl : c4 = .int .i64 sz := by simpa using e4
  subst e1
  subst e5
  refine ⟨er, l, kd, ln, sz, xs, da, dc, la, lc, rfl, ⟨in64_of w0, in64_of w2, in64_of w3, in64_of w4, hk⟩, hd, hl, Nat.le_trans hb ?_⟩
  simp only [Prod.mk.injEq] at hy
  rw [hy.1]
  simp only [List.map_cons, List.map_nil, Rows.uptoBulk, Rows.uptoBulkAll]
  omega
theorem bulk_of (xs : List Ent) (h : (xs.map fun e => e.name.length + 4).sum ≤ 1048576) : Tr.bulkE xs ≤ 3 * 1048576 + 24 * xs.length := by
  have : Tr.bulkE xs ≤ 3 * (xs.map fun e => e.name.length + 4).sum + 24 * xs.length := by
    clear h
    unfold Tr.bulkE
    induction xs with
    | nil => simp
    | cons e xs ih => simp only [List.map_cons, List.sum_cons, List.length_cons]; omega
  omega
namespace Said
def args0 : Array Value := #[.int .i64 0, .agg #[.int .i64 0, .slice none 0 0, .int .i64 0, .int .i64 0, .int .i64 0, .slice none 0 0]]
theorem laid_met (os : Os) : laidMet Tryd.prog Rows.traceSaidUptoRow.laid ((laidWorld os).forCall (fun _ _ => 0) ⟨#[], args0, []⟩).memory :=
  laidMet_of_run' 8 (by kernel_rfl) (by kernel_rfl)
theorem reads (os : Os) {H : Type} (enc : TypeId × Value → H) : ∃ places, DataW.whole enc Tryd.prog ((laidWorld os).forCall (fun _ _ => 0) ⟨#[], args0, []⟩).memory Tryd.f4.params.toList Rows.traceSaidSpec.vars false args0.toList 8 = some ([.lit (.int .i64 0), .agg [.lit (.int .i64 0), .nil, .agg [.lit (.int .i64 0), .lit (.int .i64 0), .lit (.int .i64 0)], .nil]], [], places) :=
  ⟨[], by kernel_rfl⟩
set_option maxRecDepth 100000 in
theorem contract (H : Type) (enc : TypeId × Value → H) (W : World) (base : Nat) (args : Array Value) (ds gs : List (DataW H)) (before : List MemPlace)
    (hval : ∀ (j : Nat) t v, Tryd.f4.params[j]? = some t → args[j]? = some v → Value.okWide Tryd.prog W .any base t v)
    (hW : DataW.Whole enc Tryd.prog Tryd.f4.params.toList Rows.traceSaidSpec.vars false W args.toList ds gs before) (hb : Rows.uptoSmall H (ds ++ gs) = true) (hG : Gl W) :
    Calls Tryd.prog 4 args W fun e W' => ∃ v, e = .returned v ∧ Rows.traceSaidSpec.post enc Tryd.prog Tryd.f4 false true false false W args v W' := by
  have hW' := hW
  obtain ⟨p, q, hA0, hV, rfl, hfz, hnd⟩ := hW
  have hA : DataW.TrodAll enc Tryd.prog W 0 (fun _ => true) true Tryd.f4.params.toList args.toList ds p := hA0
  rw [Tryd.params4] at hA hval
  obtain ⟨v0, v1, d0, d1, p0, p1, rfl, rfl, rfl, h0, h1⟩ := trodAll_two hA
  obtain ⟨k, rfl, rfl, rfl, wk⟩ := open_int Tryd.underlying3 (hval 0 3 v0 rfl rfl) h0
  obtain ⟨er, l, kd, ln, sz, xs, da, dc, la, lc, rfl, hr, hd, hl, hbk⟩ := open_res (fun _ => rfl) (hval 1 33 v1 rfl rfl) h1
  have hfn : Rows.traceSaidSpec.fn H [.lit (.int .i64 k), d1] = { results := [.lit (.bool true)], args := [.lit (.int .i64 k), d1] } := rfl
  refine contract_true (f := Tryd.f4) (s := Rows.traceSaidSpec) laidOut rfl (by kernel_rfl) Tryd.underlying4 ?_ hfn hW' ?_
  · rw [Tryd.params4]
    intro t ht
    have ht' : t = 3 ∨ t = 33 := by simpa using ht
    rcases ht' with rfl | rfl
    · exact ⟨by kernel_rfl, of_decide_eq_true (by kernel_rfl)⟩
    · exact ⟨by kernel_rfl, of_decide_eq_true (by kernel_rfl)⟩
  · refine said_any k (in64_of wk) W hG er l kd ln sz xs hr da dc la lc hd hl fun hx => ?_
    have hs : Rows.uptoBulkAll ([.lit (.int .i64 k), d1] ++ gs) ≤ 1048576 := of_decide_eq_true hb
    have hs2 : (xs.map fun e => e.name.length + 4).sum ≤ 1048576 := by
      refine Nat.le_trans hbk (Nat.le_trans ?_ hs)
      simp only [List.cons_append, Rows.uptoBulkAll]
      omega
    have := bulk_of xs hs2
    omega
set_option maxRecDepth 100000 in
theorem lifted (os : Os) (started : os.Started) (H : Type) (enc : TypeId × Value → H) (F : Stop.Interp) :
    ReturnsInHanded {} Tryd.checked os 4 .any ((Rows.OpenSpec.upto Rows.traceSaidSpec).preRow enc Tryd.prog Tryd.f4 Rows.traceSaidUptoRow.domain false Rows.traceSaidUptoRow.laid) (((Rows.OpenSpec.upto Rows.traceSaidSpec).at F).post enc Tryd.prog Tryd.f4 false true false false) := by
  obtain ⟨places, hx⟩ := reads os enc
  refine returnsInHanded_of_row (C := Tryd.checked) (s := Rows.OpenSpec.upto Rows.traceSaidSpec) own started (by kernel_rfl) Tryd.func4
    (witness_row_at (enc := enc) (C := Tryd.checked) false (laidWorld os) args0 rfl (by kernel_rfl) (by kernel_rfl) (by kernel_rfl)
      (OpenSpec.preRow_of_cond 8 hx (by kernel_rfl) (fun k hk => by cases hk; kernel_rfl) (by kernel_rfl) (laid_met os))) ?_
  intro W base args ds gs before hval hW _ hc _ _ hS _
  exact contract H enc W base args ds gs before hval hW (hc _ rfl) (gl_of hS)
theorem said : Rows.TraceSaidUptoSaid :=
  OpenClaim.holds_of_cond 4 Tryd.f4 rfl rfl rfl rfl rfl rfl rfl ⟨rfl, rfl, rfl, rfl, rfl⟩ rfl rfl rfl rfl rfl (by kernel_rfl) Tryd.func4 (by kernel_rfl)
    (of_decide_eq_true (by kernel_rfl)) (by unfold Func.isWrapper; first | (rw [if_pos (by decide +kernel)]; kernel_rfl) | (rw [if_neg (by decide +kernel)]; exact ⟨rfl, rfl⟩))
    (fun os started H enc _ F => by rw [OpenClaim.pre_eq_preRow]; exact lifted os started H enc F)
theorem plain (f : FuncId) (fn : Func) (hf : Tryd.pinned.checked.prog.funcNamed "slipway/slipwaylaw27.TraceSaid" = some f) (hfn : Tryd.pinned.checked.prog.funcs[f]? = some fn) :
    false = Tryd.pinned.checked.prog.looks [] ∧ ∀ (j : Nat) t, fn.params[j]? = some t → Tryd.pinned.checked.prog.wantsStandIn t = false := by
  obtain rfl : f = 4 := Option.some.inj ((show Tryd.prog.funcNamed "slipway/slipwaylaw27.TraceSaid" = some 4 by kernel_rfl).symm.trans hf) |>.symm
  obtain rfl : fn = Tryd.f4 := (Option.some.inj (Tryd.func4.symm.trans hfn)).symm
  refine ⟨by kernel_rfl, fun j t ht => ?_⟩
  rw [Tryd.params4] at ht
  have ht' : t = 3 ∨ t = 33 := by simpa using Array.mem_of_getElem? ht
  rcases ht' with rfl | rfl
  · exact (show Tryd.prog.wantsStandIn 3 = false by kernel_rfl)
  · exact (show Tryd.prog.wantsStandIn 33 = false by kernel_rfl)
theorem card : Rows.TraceSaidUptoCardSaid :=
  Claim7.holds_tied_plain_at .later [] _ _ _ _ said (fun _ h => by cases h) (by kernel_rfl) (fun _ h => by cases h) traceSaidUpto_row_tie rfl ⟨rfl, rfl⟩ (by kernel_rfl) rfl plain (by kernel_rfl)
end Said
theorem traceSaid_card : Rows.TraceSaidUptoCardSaid := Said.card
#print axioms traceSaid_card
end Go.Proofs.YtpoongljokbgcaaDoor
