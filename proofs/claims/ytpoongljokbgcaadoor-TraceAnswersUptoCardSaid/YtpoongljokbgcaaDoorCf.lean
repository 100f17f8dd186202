/- TraceAnswers: for every kind, answer and line whose bulk is at most 1048576 the law returns true, and the arguments read as they did. -/
import Derived.Test.YtpoongljokbgcaaDoorAp
import Derived.Test.YtpoongljokbgcaaDoorY
import Derived.Test.YtpoongljokbgcaaDoorCe
namespace Go.Proofs.YtpoongljokbgcaaDoor
open Go.ChangeShapes Go.WideShapes Go.ChangeAt Go.RowKit
namespace Answers
theorem tabIs_of_vars {P : Program} {W : World} {name : String} {k : IntKind} {zs : List Int} {g : Nat} {t e : TypeId} {n : Nat}
    (hg : P.globalNamed name = some g) (hty : (P.globals[g]?).map (·.type) = some t) (ht : P.underlying t = some (.array n e)) (he : P.underlying e = some (.int k)) (hce : P.cellsOf e = 1) (hct : P.cellsOf t = n) :
    ∀ (laid : List (String × DataW Unit)) (ps : List MemPlace), (name, Lib.tabData k zs) ∈ laid → DataW.LaidVars P W laid ps → Lib.TabIs P W name k zs := by
  intro laid
  induction laid with
  | nil => intro ps h; simp at h
  | cons x r ih =>
    intro ps h hl
    obtain ⟨nm, d⟩ := x
    obtain ⟨g', t', cs, fuel, p, q, hg', ht', hvar, hd, hr, _⟩ := hl
    rcases List.mem_cons.1 h with h | h
    · injection h with h1 h2
      subst h1; subst h2
      obtain rfl := Option.some.inj (hg.symm.trans hg')
      obtain rfl := Option.some.inj (hty.symm.trans ht')
      unfold Lib.TabIs
      rw [hvar, ← Lib.cells_of_tab ht he hce hct hd]
    · exact ih q h hr
theorem laidMet_of_plain (P : Program) (laid : List (String × DataW Unit)) (w : World) (h : (laid.all fun x => x.2.handleName?.isNone) = true) (hl : laidMetH P laid w) : laidMet P laid w := by
  have e : (laid.filter fun x => x.2.handleName?.isSome) = [] := by
    rw [List.filter_eq_nil_iff]
    intro x hx hs
    have := List.all_eq_true.1 h x hx
    cases hn : x.2.handleName? with
    | none => rw [hn] at hs; cases hs
    | some s => rw [hn] at this; cases this
  unfold laidMetH at hl
  rw [e] at hl
  exact hl
theorem pow10_data : (Rows.laid_internal_strconv_uint64pow10 : DataW Unit) = Lib.tabData .u64 Lib.pow10Tab := by kernel_rfl
theorem pow_of {W : World} {laid : List (String × DataW Unit)} (hm : ("internal/strconv.uint64pow10", (Rows.laid_internal_strconv_uint64pow10 : DataW Unit)) ∈ laid) (hp : (laid.all fun x => x.2.handleName?.isNone) = true) (h : laidMetH Tryd.prog laid W) : Pw W := by
  obtain ⟨ps, hl, _⟩ := laidMet_of_plain _ _ _ hp h
  rw [pow10_data] at hm
  have ht := tabIs_of_vars (P := Tryd.prog) (g := 1) (t := 128) (e := 104) (n := 20) (by kernel_rfl) (by kernel_rfl) (by kernel_rfl) (by kernel_rfl) (by kernel_rfl) (by kernel_rfl) laid ps hm hl
  refine ⟨?_, ht⟩
  have hc := ht.cell (by kernel_rfl : Tryd.prog.globalNamed "internal/strconv.uint64pow10" = some 1) 0 (by rw [Lib.pow10Tab_length]; decide)
  exact cell_lt hc
set_option maxRecDepth 100000 in
theorem open_res {H : Type} {enc : TypeId × Value → H} {W : World} {base b0 : Nat} {r : Reach} {sp : Nat → Bool} {held : Bool} {v : Value} {d : DataW H} {p : List MemPlace} (hsp : ∀ b, sp b = true)
    (hv : Value.okWide Tryd.prog W r b0 33 v) (h : DataW.Trod enc Tryd.prog W base sp held 33 v d p) :
    ∃ (er : Int) (l : List UInt8) (kd ln sz : Int) (xs : List Ent) (da : Option Addr) (dc : Nat) (la : Option Addr) (lc : Nat),
      v = .agg #[.int .i64 er, .slice da l.length dc, .int .i64 kd, .int .i64 ln, .int .i64 sz, .slice la xs.length lc] ∧ Res.ok ⟨er, l, kd, ln, sz, xs⟩ ∧
      RdB W (.slice da l.length dc) l ∧ RdE W (.slice la xs.length lc) xs ∧ (xs.map fun e => e.name.length + 4).sum ≤ Rows.uptoBulk d := by
  have h33 : Tryd.prog.cellsOf 33 = 6 := by kernel_rfl
  have h23 : Tryd.prog.cellsOf 23 = 1 := by kernel_rfl
  have h28 : Tryd.prog.cellsOf 28 = 1 := by kernel_rfl
  have h30 : Tryd.prog.cellsOf 30 = 3 := by kernel_rfl
  have h31 : Tryd.prog.cellsOf 31 = 1 := by kernel_rfl
  have h3 : Tryd.prog.cellsOf 3 = 1 := by kernel_rfl
  have h2 : Tryd.prog.cellsOf 2 = 1 := by kernel_rfl
  obtain ⟨cs, rfl, hsz⟩ := okWide_struct Tryd.underlying33 hv
  obtain ⟨fuel, hf⟩ := h
  obtain ⟨ys, n, _, hy, _, hyl, hg⟩ := DataW.trod_struct Tryd.underlying33 hf
  obtain ⟨cl⟩ := cs
  match cl, hsz.trans h33, ys, hyl with
  | [c0, c1, c2, c3, c4, c5], _, [y0, y1, y2, y3], _ =>
  have q0 : DataW.trod enc Tryd.prog W base sp held n 23 (([c0, c1, c2, c3, c4, c5].drop 0).take (Tryd.prog.cellsOf 23)) = some y0 := hg 0 _ rfl
  have q1 : DataW.trod enc Tryd.prog W base sp held n 28 (([c0, c1, c2, c3, c4, c5].drop 1).take (Tryd.prog.cellsOf 28)) = some y1 := hg 1 _ rfl
  have q2 : DataW.trod enc Tryd.prog W base sp held n 30 (([c0, c1, c2, c3, c4, c5].drop 2).take (Tryd.prog.cellsOf 30)) = some y2 := hg 2 _ rfl
  have q3 : DataW.trod enc Tryd.prog W base sp held n 31 (([c0, c1, c2, c3, c4, c5].drop 5).take (Tryd.prog.cellsOf 31)) = some y3 := hg 3 _ rfl
  rw [h23] at q0
  rw [h28] at q1
  rw [h30] at q2
  rw [h31] at q3
  obtain ⟨er, e0, r0, w0⟩ := DataW.trod_int Tryd.underlying23 q0
  obtain rfl : c0 = .int .i64 er := by simpa using e0
  obtain ⟨l, da, dc, e1, hd⟩ := open_bytes hsp q1
  obtain ⟨xs, la, lc, e5, hl, hk, hb⟩ := open_ents q3
  obtain ⟨zs, m, _, hz, _, hzl, hs⟩ := DataW.trod_struct Tryd.underlying30 q2
  match zs, hzl with
  | [z0, z1, z2], _ =>
  have s0 : DataW.trod enc Tryd.prog W base sp held m 3 (([c2, c3, c4].drop 0).take (Tryd.prog.cellsOf 3)) = some z0 := hs 0 _ rfl
  have s1 : DataW.trod enc Tryd.prog W base sp held m 3 (([c2, c3, c4].drop 1).take (Tryd.prog.cellsOf 3)) = some z1 := hs 1 _ rfl
  have s2 : DataW.trod enc Tryd.prog W base sp held m 2 (([c2, c3, c4].drop 2).take (Tryd.prog.cellsOf 2)) = some z2 := hs 2 _ rfl
  rw [h3] at s0 s1
  rw [h2] at s2
  obtain ⟨kd, e2, _, w2⟩ := DataW.trod_int Tryd.underlying3 s0
  obtain ⟨ln, e3, _, w3⟩ := DataW.trod_int Tryd.underlying3 s1
  obtain ⟨sz, e4, _, w4⟩ := DataW.trod_int Tryd.underlying2 s2
  obtain rfl : c2 = .int .i64 kd := by simpa using e2
  obtain rfl : c3 = .int .i64 ln := by simpa using e3
  obtain rfl : c4 = .int .i64 sz := by simpa using e4
  subst e1
  subst e5
  refine ⟨er, l, kd, ln, sz, xs, da, dc, la, lc, rfl, ⟨in64_of w0, in64_of w2, in64_of w3, in64_of w4, hk⟩, hd, hl, Nat.le_trans hb ?_⟩
  simp only [Prod.mk.injEq] at hy
  rw [hy.1]
  simp only [List.map_cons, List.map_nil, Rows.uptoBulk, Rows.uptoBulkAll]
  omega
theorem bulk_of (xs : List Ent) (h : (xs.map fun e => e.name.length + 4).sum ≤ 1048576) : Tr.bulkE xs ≤ 3 * 1048576 + 24 * xs.length := by
  have : Tr.bulkE xs ≤ 3 * (xs.map fun e => e.name.length + 4).sum + 24 * xs.length := by
    clear h
    unfold Tr.bulkE
    induction xs with
    | nil => simp
    | cons e xs ih => simp only [List.map_cons, List.sum_cons, List.length_cons]; omega
  omega
end Answers
theorem fits_of (er : Int) (l : List UInt8) (kd ln sz : Int) (xs : List Ent) (hr : Res.ok ⟨er, l, kd, ln, sz, xs⟩) (h3 : l.length ≤ 3000) (h1 : xs.length ≤ 100) (hbk : Tr.bulkE xs ≤ 3900000) : Res.fits ⟨er, l, kd, ln, sz, xs⟩ := by
  have hll := Tr.list_len xs hr.2.2.2.2
  have hnm : ∀ (ys : List Ent), Tr.bulkE ys ≤ 3900000 → ∀ e ∈ ys, 3 * e.name.length ≤ 140737488355328 := by
    intro ys
    induction ys with
    | nil => intro _ e he; simp at he
    | cons y ys ih =>
      intro h e he
      unfold Tr.bulkE at h ih
      simp only [List.map_cons, List.sum_cons] at h
      rcases List.mem_cons.1 he with rfl | he
      · omega
      · exact ih (by omega) e he
  exact ⟨by show 2 * l.length + 1 ≤ _; omega, hnm xs hbk, by show xs.length ≤ _; omega, by show (Lib.join ([108, 105, 115, 116] :: xs.map Tr.ent) [32]).length ≤ _; omega⟩
theorem answers_any (k : Int) (hk : in64 k) (w : World) (hG : Gl w) (hP : Pw w) (er : Int) (l : List UInt8) (kd ln sz : Int) (xs : List Ent) (hr : Res.ok ⟨er, l, kd, ln, sz, xs⟩) (da : Option Addr) (dc : Nat) (la : Option Addr) (lc : Nat) (t : List UInt8)
    (hd : RdB w (.slice da l.length dc) l) (hl : RdE w (.slice la xs.length lc) xs) (hbk : xs.length ≤ 100 → Tr.bulkE xs ≤ 3900000) :
    Calls Tryd.prog 7 #[.int .i64 k, .agg #[.int .i64 er, .slice da l.length dc, .int .i64 kd, .int .i64 ln, .int .i64 sz, .slice la xs.length lc], .string (S t)] w fun e w' => e = .returned (.bool true) ∧ Below w.heap.size w w' := by
  by_cases h3 : 3000 < l.length
  · exact answers_over k w hG er _ kd ln sz _ da dc la lc t (.inl h3)
  by_cases h1 : 100 < xs.length
  · exact answers_over k w hG er _ kd ln sz _ da dc la lc t (.inr (.inl h1))
  by_cases h9 : 9000 < t.length
  · exact answers_over k w hG er _ kd ln sz _ da dc la lc t (.inr (.inr h9))
  exact answers_main k hk w hG hP er l kd ln sz xs hr da dc la lc t hd hl (fits_of er l kd ln sz xs hr (by omega) (by omega) (hbk (by omega))) (by omega) (by omega) (by omega)
namespace Answers
def args0 : Array Value := #[.int .i64 0, .agg #[.int .i64 0, .slice none 0 0, .int .i64 0, .int .i64 0, .int .i64 0, .slice none 0 0], .string ⟨#[]⟩]
theorem laid_met (os : Os) : laidMet Tryd.prog Rows.traceAnswersUptoRow.laid ((laidWorld os).forCall (fun _ _ => 0) ⟨#[], args0, []⟩).memory :=
  laidMet_of_run' 8 (by kernel_rfl) (by kernel_rfl)
theorem reads (os : Os) {H : Type} (enc : TypeId × Value → H) : ∃ places, DataW.whole enc Tryd.prog ((laidWorld os).forCall (fun _ _ => 0) ⟨#[], args0, []⟩).memory Tryd.f7.params.toList Rows.traceAnswersSpec.vars false args0.toList 8 = some ([.lit (.int .i64 0), .agg [.lit (.int .i64 0), .nil, .agg [.lit (.int .i64 0), .lit (.int .i64 0), .lit (.int .i64 0)], .nil], .lit (.string [])], [], places) :=
  ⟨[], by kernel_rfl⟩
set_option maxRecDepth 100000 in
theorem contract (H : Type) (enc : TypeId × Value → H) (W : World) (base : Nat) (args : Array Value) (ds gs : List (DataW H)) (before : List MemPlace)
    (hval : ∀ (j : Nat) t v, Tryd.f7.params[j]? = some t → args[j]? = some v → Value.okWide Tryd.prog W .any base t v)
    (hW : DataW.Whole enc Tryd.prog Tryd.f7.params.toList Rows.traceAnswersSpec.vars false W args.toList ds gs before) (hb : Rows.uptoSmall H (ds ++ gs) = true) (hG : Gl W) (hP : Pw W) :
    Calls Tryd.prog 7 args W fun e W' => ∃ v, e = .returned v ∧ Rows.traceAnswersSpec.post enc Tryd.prog Tryd.f7 false true false false W args v W' := by
  have hW' := hW
  obtain ⟨p, q, hA0, hV, rfl, hfz, hnd⟩ := hW
  have hA : DataW.TrodAll enc Tryd.prog W 0 (fun _ => true) true Tryd.f7.params.toList args.toList ds p := hA0
  rw [Tryd.params7] at hA hval
  obtain ⟨v0, v1, v2, d0, d1, d2, p0, p1, p2, rfl, rfl, rfl, h0, h1, h2⟩ := trodAll_three hA
  obtain ⟨k, rfl, rfl, rfl, wk⟩ := open_int Tryd.underlying3 (hval 0 3 v0 rfl rfl) h0
  obtain ⟨er, l, kd, ln, sz, xs, da, dc, la, lc, rfl, hr, hd, hl, hbk⟩ := open_res (fun _ => rfl) (hval 1 33 v1 rfl rfl) h1
  obtain ⟨t, rfl, rfl, rfl, ht⟩ := Go.ChangeMaps.open_string Tryd.underlying9 (hval 2 9 v2 rfl rfl) h2
  have hfn : Rows.traceAnswersSpec.fn H [.lit (.int .i64 k), d1, .lit (.string t.data.toList)] = { results := [.lit (.bool true)], args := [.lit (.int .i64 k), d1, .lit (.string t.data.toList)] } := rfl
  refine contract_true (f := Tryd.f7) (s := Rows.traceAnswersSpec) laidOut rfl (by kernel_rfl) Tryd.underlying4 ?_ hfn hW' ?_
  · rw [Tryd.params7]
    intro t ht
    have ht' : t = 3 ∨ t = 33 ∨ t = 9 := by simpa using ht
    rcases ht' with rfl | rfl | rfl
    · exact ⟨by kernel_rfl, of_decide_eq_true (by kernel_rfl)⟩
    · exact ⟨by kernel_rfl, of_decide_eq_true (by kernel_rfl)⟩
    · exact ⟨by kernel_rfl, of_decide_eq_true (by kernel_rfl)⟩
  · have hS : Value.string t = .string (S t.data.toList) := by unfold S; simp
    rw [hS]
    refine answers_any k (in64_of wk) W hG hP er l kd ln sz xs hr da dc la lc t.data.toList hd hl fun hx => ?_
    have hs : Rows.uptoBulkAll ([.lit (.int .i64 k), d1, .lit (.string t.data.toList)] ++ gs) ≤ 1048576 := of_decide_eq_true hb
    have hs2 : (xs.map fun e => e.name.length + 4).sum ≤ 1048576 := by
      refine Nat.le_trans hbk (Nat.le_trans ?_ hs)
      simp only [List.cons_append, Rows.uptoBulkAll]
      omega
    have := bulk_of xs hs2
    omega
set_option maxRecDepth 100000 in
theorem lifted (os : Os) (started : os.Started) (H : Type) (enc : TypeId × Value → H) (F : Stop.Interp) :
    ReturnsInHanded {} Tryd.checked os 7 .any ((Rows.OpenSpec.upto Rows.traceAnswersSpec).preRow enc Tryd.prog Tryd.f7 Rows.traceAnswersUptoRow.domain false Rows.traceAnswersUptoRow.laid) (((Rows.OpenSpec.upto Rows.traceAnswersSpec).at F).post enc Tryd.prog Tryd.f7 false true false false) := by
  obtain ⟨places, hx⟩ := reads os enc
  refine returnsInHanded_of_row (C := Tryd.checked) (s := Rows.OpenSpec.upto Rows.traceAnswersSpec) own started (by kernel_rfl) Tryd.func7
    (witness_row_at (enc := enc) (C := Tryd.checked) false (laidWorld os) args0 rfl (by kernel_rfl) (by kernel_rfl) (by kernel_rfl)
      (OpenSpec.preRow_of_cond 8 hx (by kernel_rfl) (fun k hk => by cases hk; kernel_rfl) (by kernel_rfl) (laid_met os))) ?_
  intro W base args ds gs before hval hW _ hc _ hl hS _
  exact contract H enc W base args ds gs before hval hW (hc _ rfl) (gl_of hS) (pow_of (laid := Rows.traceAnswersUptoRow.laid) (by simp [Rows.traceAnswersUptoRow]) (by kernel_rfl) hl)
theorem said : Rows.TraceAnswersUptoSaid :=
  OpenClaim.holds_of_cond 7 Tryd.f7 rfl rfl rfl rfl rfl rfl rfl ⟨rfl, rfl, rfl, rfl, rfl⟩ rfl rfl rfl rfl rfl (by kernel_rfl) Tryd.func7 (by kernel_rfl)
    (of_decide_eq_true (by kernel_rfl)) (by unfold Func.isWrapper; first | (rw [if_pos (by decide +kernel)]; kernel_rfl) | (rw [if_neg (by decide +kernel)]; exact ⟨rfl, rfl⟩))
    (fun os started H enc _ F => by rw [OpenClaim.pre_eq_preRow]; exact lifted os started H enc F)
theorem plain (f : FuncId) (fn : Func) (hf : Tryd.pinned.checked.prog.funcNamed "slipway/slipwaylaw27.TraceAnswers" = some f) (hfn : Tryd.pinned.checked.prog.funcs[f]? = some fn) :
    false = Tryd.pinned.checked.prog.looks [] ∧ ∀ (j : Nat) t, fn.params[j]? = some t → Tryd.pinned.checked.prog.wantsStandIn t = false := by
  obtain rfl : f = 7 := Option.some.inj ((show Tryd.prog.funcNamed "slipway/slipwaylaw27.TraceAnswers" = some 7 by kernel_rfl).symm.trans hf) |>.symm
  obtain rfl : fn = Tryd.f7 := (Option.some.inj (Tryd.func7.symm.trans hfn)).symm
  refine ⟨by kernel_rfl, fun j t ht => ?_⟩
  rw [Tryd.params7] at ht
  have ht' : t = 3 ∨ t = 33 ∨ t = 9 := by simpa using Array.mem_of_getElem? ht
  rcases ht' with rfl | rfl | rfl
  · exact (show Tryd.prog.wantsStandIn 3 = false by kernel_rfl)
  · exact (show Tryd.prog.wantsStandIn 33 = false by kernel_rfl)
  · exact (show Tryd.prog.wantsStandIn 9 = false by kernel_rfl)
theorem card : Rows.TraceAnswersUptoCardSaid :=
  Claim7.holds_tied_plain_at .later [] _ _ _ _ said (fun _ h => by cases h) (by kernel_rfl) (fun _ h => by cases h) traceAnswersUpto_row_tie rfl ⟨rfl, rfl⟩ (by kernel_rfl) rfl plain (by kernel_rfl)
end Answers
theorem traceAnswers_card : Rows.TraceAnswersUptoCardSaid := Answers.card
#print axioms traceAnswers_card
end Go.Proofs.YtpoongljokbgcaaDoor
