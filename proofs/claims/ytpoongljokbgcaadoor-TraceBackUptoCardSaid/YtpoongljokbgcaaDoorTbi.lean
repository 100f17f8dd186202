import Derived.Test.YtpoongljokbgcaaDoorTbe
import Derived.Test.YtpoongljokbgcaaDoorTbh
import Derived.Lib.SlBytesConst
import Derived.Test.YtpoongljokbgcaaDoorTba
import Derived.ChangeMaps5
import Derived.Test.YtpoongljokbgcaaDoorTbf
import Derived.Test.YtpoongljokbgcaaDoorTbc
import Derived.RangeFuncNested
import Derived.RangeFuncBound
import Derived.RangeFuncCalls
import Derived.RangeFuncLeaves
import Derived.Shelf.Abstract
import Derived.Shelf.RegionOpen
import Derived.WalkKit
import Derived.OwnWalkIn
import Derived.TacticsInMore
import Derived.LoopNIn
import Derived.LoopIn
import Derived.Test.YtpoongljokbgcaaDoorTbg
import Derived.RegionTactic
namespace Go.Proofs.YtpoongljokbgcaaDoor
open Go.RowKit
def liveOp : Opr := ⟨7, [47, 97, 32, 98], [], 5, 0, [104, 105]⟩
def liveLine : List UInt8 := [119, 114, 105, 116, 101, 32, 47, 97, 37, 50, 48, 98, 32, 53, 32, 120, 54, 56, 54, 57]
theorem itoa5 : Lib.itoa 5 = [53] := by
  unfold Lib.itoa
  rw [if_neg (by omega), show (5 : Int).toNat = 5 from rfl, Lib.decDigits_one (by omega)]
  rfl
theorem live_print : Tr.print liveOp = (liveLine, 0) := by
  have hf : Tr.fields liveOp = [Tr.quo [47, 97, 32, 98], [53], Tr.hexes [104, 105]] := by
    rw [← itoa5]; rfl
  have hw : Tr.word liveOp.kind = [119, 114, 105, 116, 101] := rfl
  unfold Tr.print
  rw [hw, hf]
  decide
theorem uq_path : Tr.uq [47, 97, 37, 50, 48, 98] = ([47, 97, 32, 98], true) := by
  rw [Tr.uq_bare _ _ (by decide), Tr.uq_bare _ _ (by decide), Tr.uq_some 50 48 32 _ (by decide), Tr.uq_bare _ _ (by decide), Tr.uq_nil]
theorem live_parse : Tr.parse liveLine = some liveOp := by
  have h1 : Tr.spl 32 liveLine = [[119, 114, 105, 116, 101], [47, 97, 37, 50, 48, 98], [53], [120, 54, 56, 54, 57]] := by decide
  have h2 : Tr.kindOf [119, 114, 105, 116, 101] = 7 := by decide
  have h3 : Tr.unq [47, 97, 37, 50, 48, 98] = some [47, 97, 32, 98] := by
    unfold Tr.unq; rw [uq_path]; decide
  have h4 : (Tr.pnum [53]).1 = 5 := by
    unfold Tr.pnum; rw [trim_no 45 53 [] (by decide), has_no 45 53 [] (by decide)]; simp [Tr.uval, Tr.isDig, wrap64]
  have h5 : Tr.unhexesX [120, 54, 56, 54, 57] = some [104, 105] := by decide
  have hb : Tr.build [[119, 114, 105, 116, 101], [47, 97, 37, 50, 48, 98], [53], [120, 54, 56, 54, 57]] = liveOp := by
    unfold Tr.build Tr.txt
    simp only [List.getD_cons_zero, List.getD_cons_succ, h2, h3, h4, h5]
    rfl
  unfold Tr.parse
  simp only [h1, hb, live_print]
  rw [if_neg (by simp only [List.getD_cons_zero, h2]; decide), if_pos trivial]
set_option maxRecDepth 100000 in
set_option maxHeartbeats 4000000 in
theorem live_any (w : World) (hG : Gl w) :
    Calls Tryd.prog 9 #[] w fun e w' => e = .returned (.bool true) ∧ Below w.heap.size w w' := by
  have hb0 : Below w.heap.size w (w.alloc (.cells #[.int .u8 104, .int .u8 105] 5 (2, 3))) := (Below.refl _ _).alloc (Nat.le_refl _) _
  have hrd : RdB (w.alloc (.cells #[.int .u8 104, .int .u8 105] 5 (2, 3))) (.slice (some ⟨w.heap.size, 0, none⟩) 2 2) [104, 105] := by
    refine ⟨_, 2, rfl, Nat.le_refl _, fun j x hj => ⟨w.heap.size, 0, rfl, by simp, ?_⟩⟩
    rw [Lib.cell_of_heap (heap_alloc_new w _)]
    match j, hj with
    | 0, hj => simp at hj; subst hj; rfl
    | 1, hj => simp at hj; subst hj; rfl
  have hlen := Tr.line_len liveOp ⟨⟨by decide, by decide⟩, ⟨by decide, by decide⟩, ⟨by decide, by decide⟩⟩ 10 (by decide) (by decide) (by decide)
  have hp := Lib.hid (print_any liveOp _ _ (hG.below hb0) ⟨⟨by decide, by decide⟩, ⟨by decide, by decide⟩, ⟨by decide, by decide⟩⟩ (by decide) (fun _ => by decide) hrd (fun _ => Nat.le_trans hlen (by decide)))
  rw [live_print] at hp
  replace hrd := Lib.hid hrd
  replace hG := Lib.hid hG
  replace hb0 := Lib.hid hb0
  clear hlen
  have kc := fun (w : World) (C : Array Value) (n c : Nat) => Lib.run_convert_bytes_const (P := Tryd.prog) w 28 5 C n c Tryd.underlying28 Tryd.underlying5
  go_enter Tryd.func9, Tryd.ntmps9
  go_wp2_with fail
  refine hp.out.mono ?_
  rintro e w1 ⟨rfl, hb1⟩
  have hB1 := hb0.out.trans (hb1.mono hb0.out.size)
  have hq := Lib.hid (parse_any liveLine _ (hG.out.below hB1) (by decide))
  rw [live_parse] at hq
  go_wp2_with fail
  refine hq.out.mono ?_
  rintro e w2 ⟨dv, rfl, hown, hb2⟩
  have hB2 := hB1.trans (hb2.mono hB1.size)
  obtain ⟨a, c, rfl⟩ := (Rd.of_own (enc := byteV) hown).len
  have hcv : ∀ X : Obj, Sem.run Tryd.prog (convert 28 9 (.slice a liveOp.data.length c)) (w2.alloc X) = .ok (.string (S [104, 105])) (w2.alloc X) := fun X => convert_rd (P := Tryd.prog) Tryd.underlying28 Tryd.underlying5 Tryd.underlying9 ((Rd.of_own (enc := byteV) hown).below (W' := w2.alloc X) ((Below.refl _ _).alloc (Nat.le_refl _) _))
  go_wp2_with fail
  go_ret
  exact ⟨rfl, hB2.alloc hB2.size _⟩
end Go.Proofs.YtpoongljokbgcaaDoor
namespace Go.Proofs.YtpoongljokbgcaaDoor
open Go.RowKit
theorem unquotes (l : List UInt8) (hl : 3 * l.length ≤ 140737488355328) :
    ∃ t m, (∀ w, Calls Tryd.prog 10 #[.string (S l)] w (PairText t m w)) ∧ ∀ w, Calls Tryd.prog 11 #[.string (S l)] w (PairText t m w) :=
  ⟨_, _, fun w => unquote_pair l w hl, fun w => (unquoter_any l w hl).mono fun e w' ⟨he, hb⟩ => ⟨by rw [he]; cases Tr.unq l <;> rfl, hb⟩⟩
set_option maxHeartbeats 4000000 in
theorem texts_any (l : List UInt8) (w : World) (hG : Gl w) :
    Calls Tryd.prog 3 #[.string (S l)] w fun e w' => e = .returned (.bool true) ∧ Below w.heap.size w w' := by
  by_cases hlt : 5000 < l.length
  · replace hG := Lib.hid (live_any w hG)
    have ht : (((S l).size : Int) > 5000) := by rw [S_size]; omega
    go_enter Tryd.func3, Tryd.ntmps3
    go_wp2_with fail
    refine hG.out.mono ?_
    rintro e w1 ⟨rfl, hb1⟩
    go_wp2_with fail
    go_ret
    exact ⟨rfl, hb1⟩
  · have hl : 3 * l.length ≤ 140737488355328 := by omega
    replace hG := Lib.hid (live_any w hG)
    have ht : ¬ (((S l).size : Int) > 5000) := by rw [S_size]; omega
    obtain ⟨t, m, h10, h11⟩ := unquotes l hl
    replace hl := Lib.hid hl
    replace h10 := Lib.hid h10
    replace h11 := Lib.hid h11
    go_enter Tryd.func3, Tryd.ntmps3
    go_wp2_with fail
    refine hG.out.mono ?_
    rintro e w1 ⟨rfl, hb1⟩
    go_wp2_with fail
    refine (h10.out _).mono ?_
    rintro e w2 ⟨rfl, hb2⟩
    go_wp2_with fail
    refine (h11.out _).mono ?_
    rintro e w3 ⟨rfl, hb3⟩
    go_wp2_with fail
    refine (quote_any l _ hl.out).mono ?_
    rintro e w4 ⟨rfl, hb4⟩
    go_wp2_with fail
    refine (quoter_any l _ hl.out).mono ?_
    rintro e w5 ⟨rfl, hb5⟩
    go_wp2_with fail
    go_ret
    have a1 := hb1
    have a2 := a1.trans (hb2.mono a1.size)
    have a3 := a2.trans (hb3.mono a2.size)
    have a4 := a3.trans (hb4.mono a3.size)
    exact ⟨rfl, a4.trans (hb5.mono a4.size)⟩
end Go.Proofs.YtpoongljokbgcaaDoor
/- TraceTexts: for every text the law returns true, makes nothing but new blocks, and the text reads as it did. No condition beyond the row's own: the tables that it lists hold what the program's text lays. -/
namespace Go.Proofs.YtpoongljokbgcaaDoor
open Go.ChangeShapes Go.WideShapes Go.ChangeAt Go.RowKit
theorem laidOut : laidOutB Tryd.prog = true := by kernel_rfl
theorem own : ownKnob Tryd.prog.godebug = none := by kernel_rfl
/-- The integers of a datum, in their order. -/
def flat : Nat → DataW Unit → List Value
  | _, .lit (.int k n) => [.int k n]
  | n + 1, .agg l => l.flatMap (flat n)
  | _, _ => []
def lay1 (d : DataW Unit) : Obj → Obj
  | .cells _ t fr => .cells (flat 3 d).toArray t fr
  | o => o
/-- A world for the witnesses: the settled one, the tables (blocks 1 to 5) holding what the rows list. -/
noncomputable def laidWorld (os : Os) : World :=
  { World.holding Tryd.prog os ⟨#[], #[], []⟩ with heap := (((((World.holding Tryd.prog os ⟨#[], #[], []⟩).heap.modify 1 (lay1 Rows.laid_internal_strconv_uint64pow10)).modify 2 (lay1 Rows.laid_unicode_utf8_first)).modify 3 (lay1 Rows.laid_unicode_utf8_acceptRanges)).modify 4 (lay1 Rows.laid_math_bits_deBruijn32tab)).modify 5 (lay1 Rows.laid_math_bits_deBruijn64tab) }
theorem gl_of {W : World} (h : W.ShapedOpen Tryd.prog) : Gl W := by
  obtain ⟨m, hm⟩ := Tryd.laysM219.s1_3 W h
  have hm' : W.cell? ⟨0, 0, none⟩ = some (.int .i64 m) := hm
  refine ⟨?_, m, hm'⟩
  rcases Nat.eq_zero_or_pos W.heap.size with h0 | h0
  · have : W.heap[0]? = none := by simp [h0]
    simp [World.cell?, this] at hm'
  · exact h0
namespace Texts
theorem laid_met (os : Os) : laidMet Tryd.prog Rows.traceTextsRow.laid ((laidWorld os).forCall (fun _ _ => 0) ⟨#[], #[.string ⟨#[]⟩], []⟩).memory :=
  laidMet_of_run' 8 (by kernel_rfl) (by kernel_rfl)
theorem reads (os : Os) {H : Type} (enc : TypeId × Value → H) : ∃ places, DataW.whole enc Tryd.prog ((laidWorld os).forCall (fun _ _ => 0) ⟨#[], #[.string ⟨#[]⟩], []⟩).memory Tryd.f3.params.toList Rows.traceTextsSpec.vars false #[Value.string ⟨#[]⟩].toList 8 = some ([.lit (.string [])], [], places) :=
  ⟨[], by kernel_rfl⟩
set_option maxRecDepth 100000 in
theorem contract (H : Type) (enc : TypeId × Value → H) (W : World) (base : Nat) (args : Array Value) (ds gs : List (DataW H)) (before : List MemPlace)
    (hval : ∀ (j : Nat) t v, Tryd.f3.params[j]? = some t → args[j]? = some v → Value.okWide Tryd.prog W .any base t v)
    (hW : DataW.Whole enc Tryd.prog Tryd.f3.params.toList Rows.traceTextsSpec.vars false W args.toList ds gs before) (hG : Gl W) :
    Calls Tryd.prog 3 args W fun e W' => ∃ v, e = .returned v ∧ Rows.traceTextsSpec.post enc Tryd.prog Tryd.f3 false true false false W args v W' := by
  have hW' := hW
  obtain ⟨p, q, hA0, hV, rfl, hfz, hnd⟩ := hW
  have hA : DataW.TrodAll enc Tryd.prog W 0 (fun _ => true) true Tryd.f3.params.toList args.toList ds p := hA0
  rw [Tryd.params3] at hA hval
  obtain ⟨v0, vs0, d0, ds0, p0, q0, hargs, rfl, rfl, h0, r0⟩ := trodAll_cons hA
  obtain ⟨rfl, rfl, rfl⟩ := trodAll_nil r0
  obtain rfl : args = #[v0] := by cases args; simp_all
  obtain ⟨s, rfl, rfl, rfl, hs⟩ := Go.ChangeMaps.open_string Tryd.underlying9 (hval 0 9 v0 rfl rfl) h0
  have hfn : Rows.traceTextsSpec.fn H [.lit (.string s.data.toList)] = { results := [.lit (.bool true)], args := [.lit (.string s.data.toList)] } := rfl
  refine contract_true (f := Tryd.f3) (s := Rows.traceTextsSpec) laidOut rfl (by kernel_rfl) Tryd.underlying4 ?_ hfn hW' ?_
  · rw [Tryd.params3]
    intro t ht
    obtain rfl : t = 9 := by simpa using ht
    exact ⟨by kernel_rfl, of_decide_eq_true (by kernel_rfl)⟩
  · have hS : Value.string s = .string (S s.data.toList) := by unfold S; simp
    rw [hS]
    exact texts_any _ W hG
set_option maxRecDepth 100000 in
theorem lifted (os : Os) (started : os.Started) (H : Type) (enc : TypeId × Value → H) (F : Stop.Interp) :
    ReturnsInHanded {} Tryd.checked os 3 .any ((OpenSpec.ofChange Rows.traceTextsSpec).preRow enc Tryd.prog Tryd.f3 Rows.traceTextsRow.domain false Rows.traceTextsRow.laid) (((OpenSpec.ofChange Rows.traceTextsSpec).at F).post enc Tryd.prog Tryd.f3 false true false false) := by
  obtain ⟨places, hx⟩ := reads os enc
  refine returnsInHanded_of_row (C := Tryd.checked) (s := OpenSpec.ofChange Rows.traceTextsSpec) own started (by kernel_rfl) Tryd.func3
    (witness_row_at (enc := enc) (C := Tryd.checked) false (laidWorld os) #[.string ⟨#[]⟩] rfl (by kernel_rfl) (by kernel_rfl) (by kernel_rfl)
      (OpenSpec.preRow_of_cond 8 hx (by kernel_rfl) (fun k hk => by cases hk) (by kernel_rfl) (laid_met os))) ?_
  intro W base args ds gs before hval hW _ _ _ _ hS _
  exact contract H enc W base args ds gs before hval hW (gl_of hS)
theorem said : Rows.TraceTextsSaid :=
  OpenClaim.holds_of_cond 3 Tryd.f3 rfl rfl rfl rfl rfl rfl rfl ⟨rfl, rfl, rfl, rfl, rfl⟩ rfl rfl rfl rfl rfl (by kernel_rfl) Tryd.func3 (by kernel_rfl)
    (of_decide_eq_true (by kernel_rfl)) (by unfold Func.isWrapper; first | (rw [if_pos (by decide +kernel)]; kernel_rfl) | (rw [if_neg (by decide +kernel)]; exact ⟨rfl, rfl⟩))
    (fun os started H enc _ F => by rw [OpenClaim.pre_eq_preRow]; exact lifted os started H enc F)
theorem plain (f : FuncId) (fn : Func) (hf : Tryd.pinned.checked.prog.funcNamed "slipway/slipwaylaw27.TraceTexts" = some f) (hfn : Tryd.pinned.checked.prog.funcs[f]? = some fn) :
    false = Tryd.pinned.checked.prog.looks [] ∧ ∀ (j : Nat) t, fn.params[j]? = some t → Tryd.pinned.checked.prog.wantsStandIn t = false := by
  obtain rfl : f = 3 := Option.some.inj ((show Tryd.prog.funcNamed "slipway/slipwaylaw27.TraceTexts" = some 3 by kernel_rfl).symm.trans hf) |>.symm
  obtain rfl : fn = Tryd.f3 := (Option.some.inj (Tryd.func3.symm.trans hfn)).symm
  refine ⟨by kernel_rfl, fun j t ht => ?_⟩
  rw [Tryd.params3] at ht
  obtain rfl : t = 9 := by simpa using Array.mem_of_getElem? ht
  exact (show Tryd.prog.wantsStandIn 9 = false by kernel_rfl)
theorem card : Rows.TraceTextsCardSaid :=
  Claim7.holds_tied_plain_at .later [] _ _ _ _ said (fun _ h => by cases h) (by kernel_rfl) (fun _ h => by cases h) traceTexts_row_tie rfl ⟨rfl, rfl⟩ (by kernel_rfl) rfl plain (by kernel_rfl)
end Texts
theorem traceTexts_card : Rows.TraceTextsCardSaid := Texts.card
#print axioms traceTexts_card
end Go.Proofs.YtpoongljokbgcaaDoor
/- The iterator over a text's lines (trace.Lines). -/
namespace Go.Proofs.YtpoongljokbgcaaDoor
open Go.RowKit Go.Shelf
attribute [local go_sem] Oper.semAt_some
namespace Tr
/-- The lines with their numbers. -/
def numb : Nat → List (List UInt8) → List (Nat × List UInt8)
  | _, [] => []
  | k, x :: r => (k, x) :: numb (k + 1) r
theorem numb_len (k : Nat) (l : List (List UInt8)) : (numb k l).length = l.length := by
  induction l generalizing k with
  | nil => rfl
  | cons x r ih => simp [numb, ih]
end Tr
/-- A line with its number, no longer than a script may be. -/
abbrev Ln : Type := { x : Nat × List UInt8 // x.2.length ≤ 65536 }
theorem cutnl_S (l : List UInt8) (w : World) (hG : Gl w) (hl : l.length < 4294967281) :
    Calls Tryd.prog 49 #[.string (S l), .string ⟨#[10]⟩] w fun e w' => e = .returned (.tuple #[.string (S (Lib.cut l [10]).1), .string (S (Lib.cut l [10]).2.1), .bool (Lib.cut l [10]).2.2]) ∧ ∃ n, w' = w.drewN n := by
  obtain ⟨_, m, hm⟩ := hG
  exact Tryd.strings_Cut (S l) (S [10]) m w (by simpa using hl) hm
theorem grownBy_drewN (w : World) (n : Nat) : w.grownBy (w.drewN n) none := ⟨rfl, rfl, rfl, Nat.le_refl _, fun _ _ _ => rfl⟩
set_option maxRecDepth 100000 in
set_option maxHeartbeats 2000000 in
theorem lines1_in (n : Nat) (hn : 1 ≤ n) (l Bn : Nat) (w0 : World) (hG0 : Gl w0) (s : List UInt8) (hs : s.length ≤ 65536) (J Jx : List Ln → World → Prop) (hJ : ∀ pre W W' n, J pre W → W' = W.drewN n → J pre W')
    (hY : ∀ pre x W, J pre W → pre.length < (Tr.lns s).length → YieldAt Fence.wide (n - 1) Tryd.prog l #[.int .i64 x.1.1, .string (S x.1.2)] W fun e W' =>
      (e = .returned (.bool true) ∧ J (pre ++ [x]) W' ∧ Below w0.heap.size W W') ∨ (e = .returned (.bool false) ∧ Jx (pre ++ [x]) W'))
    (W : World) (hBn : W.cell? ⟨Bn, 0, none⟩ = some (.string (S s))) (hW : Below w0.heap.size w0 W) (h0 : J [] W) :
    CallsIn Fence.wide n Tryd.prog 76 #[.func (.yield l) #[] #[], .pointer (some ⟨Bn, 0, none⟩)] W fun e W' => (∃ v, e = .returned v) ∧
      ((∃ ys, ys.map Subtype.val = Tr.numb 1 (Tr.lns s) ∧ J ys W') ∨ (∃ pre, pre.map Subtype.val <+: Tr.numb 1 (Tr.lns s) ∧ Jx pre W')) := by
  refine callsIn_of_wp Tryd.func76 rfl trivial ?_ rfl
  simp only [Tryd.ntmps76, List.size_toArray, List.length_cons, List.length_nil, Nat.reduceAdd, Nat.reduceSub, Array.replicate_succ, Array.replicate_zero, List.push_toArray, List.append_toArray, List.nil_append, List.cons_append]
  gi_wp2
  gi_loopw [3, 4] (fun k' t' wr => ∃ (pre : List Ln) (k : Nat) (r : List UInt8), k' = .int .i64 k ∧ t' = .string (S r) ∧ Tr.numb 1 (Tr.lns s) = pre.map Subtype.val ++ Tr.numb k (Tr.lns r) ∧ (1 ≤ k ∧ k + r.length ≤ 65537) ∧ Below w0.heap.size w0 wr ∧ J pre wr)
    (fun _ t' _ => match t' with | .string b => b.size | _ => 0)
  case atStart => exact ⟨[], 1, s, rfl, rfl, rfl, by omega, hW, h0⟩
  case round =>
    obtain ⟨pre, k, r, rfl, rfl, hx, hk, hwr, hJs⟩ := hrel
    by_cases hr : r = []
    · subst hr
      have e0 : (([] : List UInt8) != []) = false := rfl
      gi_wp2
      go_end0
      exact ⟨⟨_, rfl⟩, .inl ⟨pre, by rw [hx, Tr.lns_nil]; simp [Tr.numb], hJs⟩⟩
    · have hq := Tr.cut_rest_lt r hr
      have hp := Tr.lns_cons r hr
      have hcl := (Tr.cut_len r [10]).1
      have hC := cutnl_S r wr (hG0.below hwr) (by omega)
      obtain ⟨⟨p, q, g⟩, hcut⟩ : ∃ z, Lib.cut r [10] = z := ⟨_, rfl⟩
      rw [hcut] at hq hp hC hcl
      dsimp only at hq hp hC hcl
      rw [hp] at hx
      have hlen : pre.length < (Tr.lns s).length := by
        have := congrArg List.length hx
        rw [Tr.numb_len, List.length_append, List.length_map, Tr.numb_len, List.length_cons] at this
        omega
      have e0 : r.isEmpty = false := by cases r with
        | nil => exact absurd rfl hr
        | cons x y => rfl
      have hpl : p.length ≤ 65536 := by omega
      clear hcut hp
      gi_wp2_with (refine ⟨trivial, ?_⟩; gi_at_call 49; refine (callsIn_wide.2 hC).mono ?_; rintro e w' ⟨rfl, m, rfl⟩; obtain ⟨fn, tmps, assign, body, hy, hR⟩ := hY pre ⟨(k, p), hpl⟩ (wr.drewN m) (hJ _ _ _ m hJs rfl) hlen; dsimp only at hy)
      refine hR.mono ?_
      rintro e W3 (⟨rfl, hJ3, hk3⟩ | ⟨rfl, hJx3⟩)
      · have hW3 : Below w0.heap.size w0 W3 := hwr.trans ⟨hk3.os, hk3.tape, hk3.output, hk3.size, hk3.block⟩
        gi_wp2
        go_roundw
        case rel => exact ⟨pre ++ [⟨(k, p), hpl⟩], k + 1, q, by go_num, rfl, by rw [hx]; simp [Tr.numb], by omega, hW3, hJ3⟩
        case measure => simpa using hq
      · gi_wp2
        refine bodyPost_ret (results_none rfl _ _ _) rfl ?_
        exact ⟨⟨_, rfl⟩, .inr ⟨pre ++ [⟨(k, p), hpl⟩], ⟨Tr.numb (k + 1) (Tr.lns q), by rw [hx]; simp [Tr.numb]⟩, hJx3⟩⟩
/-- trace.Lines hands back a value that gives the lines with their numbers, or a part of them where a round has said 'no more'. -/
theorem lines_stops (n : Nat) (hn : 1 ≤ n) (Bn : Nat) (w0 : World) (hG0 : Gl w0) (s : List UInt8) (hs : s.length ≤ 65536) (w : World) (hBn : Bn < w.heap.size) (h0 : Below w0.heap.size w0 w) (hc : w.cell? ⟨Bn, 0, none⟩ = some (.string (S s))) :
    SeqStopsK Fence.wide n Tryd.prog 76 #[.pointer (some ⟨Bn, 0, none⟩)] (fun x : Ln => #[Value.int .i64 x.1.1, Value.string (S x.1.2)]) (Below w0.heap.size) (fun ys => ys.map Subtype.val = Tr.numb 1 (Tr.lns s)) (fun pre => pre.map Subtype.val <+: Tr.numb 1 (Tr.lns s)) (Tr.lns s).length w := fun l J Jx W hW hJ _ hY h0J =>
  lines1_in n hn l Bn w0 hG0 s hs J Jx (fun pre W W' m h e => by subst e; exact hJ pre W _ none h (grownBy_drewN W m) (fun r e => by cases e)) hY W ((hW.cell (p := ⟨Bn, 0, none⟩) hBn).trans hc) (h0.trans (hW.mono h0.size)) h0J
end Go.Proofs.YtpoongljokbgcaaDoor
/- The reference's look whether two calls are the same (slipwayref27.Exact), printed by wip/tools/exact23.py. -/
namespace Go.Proofs.YtpoongljokbgcaaDoor
open Go.RowKit
def Tr.eqB (a b : Opr) : Bool := a.kind == b.kind && (a.path == b.path && (a.dest == b.dest && (a.off == b.off && (a.len == b.len && a.data == b.data))))
def BoolBelow (b : Bool) (w : World) (e : Ending) (w' : World) : Prop := e = .returned (.bool b) ∧ Below w.heap.size w w'
theorem boolBelow_mk {b c : Bool} {w : World} {e : Ending} {w' : World} (h : b = c) (he : e = .returned (.bool c)) (hb : Below w.heap.size w w') : BoolBelow b w e w' := by subst h; exact ⟨he, hb⟩
set_option maxRecDepth 100000 in
set_option maxHeartbeats 8000000 in
theorem exact_any (a b : Opr) (dv du : Value) (w : World) (hr : RdB w dv a.data) (hu : RdB w du b.data) :
    Calls Tryd.prog 23 #[opV a dv, opV b du] w (BoolBelow (Tr.eqB a b) w) := by
  obtain ⟨k, p, t, f, n, l⟩ := a
  obtain ⟨k2, p2, t2, f2, n2, l2⟩ := b
  unfold opV
  dsimp only at *
  have hB0 := Lib.hid (show Below w.heap.size w ((w.alloc (.cells #[.int .i64 k, .string (S p), .string (S t), .int .i64 f, .int .i64 n, dv] 44)).alloc (.cells #[.int .i64 k2, .string (S p2), .string (S t2), .int .i64 f2, .int .i64 n2, du] 44)) from ((Below.refl _ _).alloc (Nat.le_refl _) _).alloc (by rw [World.size_alloc]; omega) _)
  have c1 := convert_rd (P := Tryd.prog) Tryd.underlying28 Tryd.underlying5 Tryd.underlying9 (hr.below hB0.out)
  have c2 := convert_rd (P := Tryd.prog) Tryd.underlying28 Tryd.underlying5 Tryd.underlying9 (hu.below hB0.out)
  clear hr hu
  by_cases hk : k = k2
  case neg =>
    have ek : (k == k2) = false := by simpa using hk
    have hfin := Lib.hid (show Tr.eqB ⟨k, p, t, f, n, l⟩ ⟨k2, p2, t2, f2, n2, l2⟩ = false by unfold Tr.eqB; simp [ek])
    clear hk
    go_enter Tryd.func23, Tryd.ntmps23
    go_wp2_with fail
    go_ret
    exact boolBelow_mk hfin.out rfl hB0.out
  have ek : (k == k2) = true := by simpa using hk
  clear hk
  by_cases hp : p = p2
  case neg =>
    have ep : (p == p2) = false := by simpa using hp
    have hfin := Lib.hid (show Tr.eqB ⟨k, p, t, f, n, l⟩ ⟨k2, p2, t2, f2, n2, l2⟩ = false by unfold Tr.eqB; simp [ek, ep])
    clear hp
    go_enter Tryd.func23, Tryd.ntmps23
    go_wp2_with fail
    go_ret
    exact boolBelow_mk hfin.out rfl hB0.out
  have ep : (p == p2) = true := by simpa using hp
  clear hp
  by_cases ht : t = t2
  case neg =>
    have et : (t == t2) = false := by simpa using ht
    have hfin := Lib.hid (show Tr.eqB ⟨k, p, t, f, n, l⟩ ⟨k2, p2, t2, f2, n2, l2⟩ = false by unfold Tr.eqB; simp [ek, ep, et])
    clear ht
    go_enter Tryd.func23, Tryd.ntmps23
    go_wp2_with fail
    go_ret
    exact boolBelow_mk hfin.out rfl hB0.out
  have et : (t == t2) = true := by simpa using ht
  clear ht
  by_cases hf : f = f2
  case neg =>
    have ef : (f == f2) = false := by simpa using hf
    have hfin := Lib.hid (show Tr.eqB ⟨k, p, t, f, n, l⟩ ⟨k2, p2, t2, f2, n2, l2⟩ = false by unfold Tr.eqB; simp [ek, ep, et, ef])
    clear hf
    go_enter Tryd.func23, Tryd.ntmps23
    go_wp2_with fail
    go_ret
    exact boolBelow_mk hfin.out rfl hB0.out
  have ef : (f == f2) = true := by simpa using hf
  clear hf
  by_cases hn : n = n2
  case neg =>
    have en : (n == n2) = false := by simpa using hn
    have hfin := Lib.hid (show Tr.eqB ⟨k, p, t, f, n, l⟩ ⟨k2, p2, t2, f2, n2, l2⟩ = false by unfold Tr.eqB; simp [ek, ep, et, ef, en])
    clear hn
    go_enter Tryd.func23, Tryd.ntmps23
    go_wp2_with fail
    go_ret
    exact boolBelow_mk hfin.out rfl hB0.out
  have en : (n == n2) = true := by simpa using hn
  clear hn
  by_cases hl : l = l2
  case neg =>
    have el : (l == l2) = false := by simpa using hl
    have hfin := Lib.hid (show Tr.eqB ⟨k, p, t, f, n, l⟩ ⟨k2, p2, t2, f2, n2, l2⟩ = false by unfold Tr.eqB; simp [ek, ep, et, ef, en, el])
    clear hl
    go_enter Tryd.func23, Tryd.ntmps23
    go_wp2_with fail
    go_ret
    exact boolBelow_mk hfin.out rfl hB0.out
  have el : (l == l2) = true := by simpa using hl
  clear hl
  have hfin := Lib.hid (show Tr.eqB ⟨k, p, t, f, n, l⟩ ⟨k2, p2, t2, f2, n2, l2⟩ = true by unfold Tr.eqB; simp only [ek, ep, et, ef, en, el]; rfl)
  go_enter Tryd.func23, Tryd.ntmps23
  go_wp2_with fail
  go_ret
  exact boolBelow_mk hfin.out rfl hB0.out
end Go.Proofs.YtpoongljokbgcaaDoor
/- A statement that draws its order, by an invariant: one step for each operation, whatever came ahead of it. -/
namespace Go.Proofs.YtpoongljokbgcaaDoor
open Go.RowKit
section
variable {P : Program} {ops : Array Oper} {Q : Exit → Act → World → Prop} {md : Region.Mode}
def unl (l : List Bool) : Nat := (l.filter fun b => !b).length
theorem unl_set : ∀ (l : List Bool) (i : Nat), l[i]? = some false → unl (l.set i true) + 1 = unl l := by
  intro l
  induction l with
  | nil => intro i h; simp at h
  | cons b l ih =>
    intro i h
    cases i with
    | zero =>
      simp only [List.getElem?_cons_zero, Option.some.injEq] at h
      subst h
      simp [unl]
    | succ i =>
      simp only [List.getElem?_cons_succ] at h
      have := ih i h
      unfold unl at this ⊢
      cases b <;> simp <;> omega
theorem wpAny_inv {Inv : List Bool → Act → World → Prop} (hlen : ∀ l a w, Inv l a w → l.length = ops.size)
    (hstep : ∀ l a w, Inv l a w → ∀ i, i ∈ Region.ready md ops l.toArray → wpOp P ops Q i (Inv (l.set i true)) a w)
    (hend : ∀ l a w, Inv l a w → Region.ready md ops l.toArray = [] → Q .normal a w) :
    ∀ (fuel : Nat) (l : List Bool) (a : Act) (w : World), Inv l a w → unl l ≤ fuel → wpAny P md ops Q fuel l.toArray a w := by
  have hre : ∀ (l : List Bool) (i : Nat), l.length = ops.size → i ∈ Region.ready md ops l.toArray → l[i]? = some false := by
    intro l i hl h
    obtain ⟨h0, o, ho, _⟩ := mem_ready.1 h
    have hlt : i < ops.size := (Array.getElem?_eq_some_iff.1 ho).1
    have : i < l.length := by omega
    simp [this] at h0
    simp [this, h0]
  intro fuel
  induction fuel with
  | zero =>
    intro l a w h hf
    have hr : Region.ready md ops l.toArray = [] := by
      cases hr : Region.ready md ops l.toArray with
      | nil => rfl
      | cons i r =>
        have := unl_set l i (hre l i (hlen _ _ _ h) (by rw [hr]; exact List.mem_cons_self ..))
        omega
    exact ⟨hr, hend _ _ _ h hr⟩
  | succ fuel ih =>
    intro l a w h hf
    refine ⟨fun hr => hend _ _ _ h hr, fun i hi => ?_⟩
    have hu := unl_set l i (hre l i (hlen _ _ _ h) hi)
    refine wpOp_mono (fun a' w' h' => ?_) (hstep l a w h i hi)
    have := ih (l.set i true) a' w' h' (by omega)
    rw [List.setIfInBounds_toArray]
    exact this
theorem wp_region_inv {id : Nat} {a : Act} {w : World} (hm : P.follows .mixedOrders = true) {Inv : List Bool → Act → World → Prop} (hlen : ∀ l a w, Inv l a w → l.length = ops.size)
    (hstep : ∀ l a w, Inv l a w → ∀ i, i ∈ Region.ready .any ops l.toArray → wpOp P ops Q i (Inv (l.set i true)) a w)
    (hend : ∀ l a w, Inv l a w → Region.ready .any ops l.toArray = [] → Q .normal a w)
    (h0 : Inv (List.replicate ops.size false) a w.drew) : (Code.region id ops true).wp P Q a w := by
  refine wp_region_any hm ?_
  have := wpAny_inv (P := P) (Q := Q) hlen hstep hend ops.size (List.replicate ops.size false) a w.drew h0 (by unfold unl; simp)
  rw [List.toArray_replicate] at this
  exact this
end
end Go.Proofs.YtpoongljokbgcaaDoor
/- 'x, y := Plain(a), Plain(b)': the invariant of the drawn statement (trace.Same). -/
namespace Go.Proofs.YtpoongljokbgcaaDoor
open Go.RowKit
/-- What reads as a list, and lies in another block than b. -/
def RdX (W : World) (v : Value) (l : List UInt8) (b : Nat) : Prop :=
  ∃ a cap, v = .slice a l.length cap ∧ l.length ≤ cap ∧ ∀ j x, l[j]? = some x → ∃ b' o, a = some ⟨b', o, none⟩ ∧ b' < W.heap.size ∧ W.cell? ⟨b', o + j, none⟩ = some (byteV x) ∧ b' ≠ b
theorem RdX.rd {W : World} {v : Value} {l : List UInt8} {b : Nat} (h : RdX W v l b) : RdB W v l := by
  obtain ⟨a, cap, h1, h2, h3⟩ := h
  exact ⟨a, cap, h1, h2, fun j x hj => by obtain ⟨b', o, e1, e2, e3, _⟩ := h3 j x hj; exact ⟨b', o, e1, e2, e3⟩⟩
theorem RdX.setCell {W : World} {v : Value} {l : List UInt8} {b : Nat} (h : RdX W v l b) (i : Nat) (u : Value) : RdX (W.setCell ⟨b, i, none⟩ u) v l b := by
  obtain ⟨a, cap, h1, h2, h3⟩ := h
  refine ⟨a, cap, h1, h2, fun j x hj => ?_⟩
  obtain ⟨b', o, e1, e2, e3, e4⟩ := h3 j x hj
  refine ⟨b', o, e1, by simpa [World.setCell] using e2, ?_, e4⟩
  rw [World.cell?_setCell_other _ _ _ _ (by intro h; have h' := congrArg Addr.block h; first | exact e4 h' | exact e4 h'.symm)]
  exact e3
def NoU8 (vs : Array Value) : Prop := ∀ (j : Nat) (n : Int), vs[j]? ≠ some (.int .u8 n)
theorem rdX_of {W : World} {v : Value} {l : List UInt8} {b : Nat} {t : TypeId} {vs : Array Value} (h : RdB W v l) (hb : Box W b t vs) (hn : NoU8 vs) : RdX W v l b := by
  obtain ⟨a, cap, h1, h2, h3⟩ := h
  refine ⟨a, cap, h1, h2, fun j x hj => ?_⟩
  obtain ⟨b', o, e1, e2, e3⟩ := h3 j x hj
  refine ⟨b', o, e1, e2, e3, ?_⟩
  rintro rfl
  rw [hb.cell] at e3
  exact hn _ _ e3
abbrev zero44 : Array Value := #[.int .i64 0, .string ⟨#[]⟩, .string ⟨#[]⟩, .int .i64 0, .int .i64 0, .slice none 0 0]
abbrev aggO (o : Opr) (ad : Option Addr) (cp : Nat) : Array Value := #[.int .i64 o.kind, .string (S o.path), .string (S o.dest), .int .i64 o.off, .int .i64 o.len, .slice ad o.data.length cp]
theorem noU8_six {v0 v1 v2 v3 v4 v5 : Value} (h0 : ∀ n, v0 ≠ .int .u8 n) (h1 : ∀ n, v1 ≠ .int .u8 n) (h2 : ∀ n, v2 ≠ .int .u8 n) (h3 : ∀ n, v3 ≠ .int .u8 n) (h4 : ∀ n, v4 ≠ .int .u8 n) (h5 : ∀ n, v5 ≠ .int .u8 n) : NoU8 #[v0, v1, v2, v3, v4, v5] := by
  intro j n h
  match j, h with
  | 0, h => exact h0 n (by simpa using h)
  | 1, h => exact h1 n (by simpa using h)
  | 2, h => exact h2 n (by simpa using h)
  | 3, h => exact h3 n (by simpa using h)
  | 4, h => exact h4 n (by simpa using h)
  | 5, h => exact h5 n (by simpa using h)
  | j + 6, h => simp at h
theorem noU8_zero : NoU8 zero44 := noU8_six (by simp) (by simp) (by simp) (by simp) (by simp) (by simp)
theorem noU8_agg (o : Opr) (ad : Option Addr) (cp : Nat) : NoU8 (aggO o ad cp) := noU8_six (by simp) (by simp) (by simp) (by simp) (by simp) (by simp)
/-- six cells of a block laid anew -/
def six (W : World) (b : Nat) (o : Opr) (ad : Option Addr) (cp : Nat) : World :=
  (((((W.setCell ⟨b, 0, none⟩ (.int .i64 o.kind)).setCell ⟨b, 1, none⟩ (.string (S o.path))).setCell ⟨b, 2, none⟩ (.string (S o.dest))).setCell ⟨b, 3, none⟩ (.int .i64 o.off)).setCell ⟨b, 4, none⟩ (.int .i64 o.len)).setCell ⟨b, 5, none⟩ (.slice ad o.data.length cp)
theorem six_box {W : World} {b : Nat} {vs : Array Value} (h : Box W b 44 vs) (hv : vs.size = 6) (o : Opr) (ad : Option Addr) (cp : Nat) : Box (six W b o ad cp) b 44 (aggO o ad cp) := by
  obtain ⟨l⟩ := vs
  match l, hv with
  | [a0, a1, a2, a3, a4, a5], _ =>
    have := (((((h.set 0 (.int .i64 o.kind)).set 1 (.string (S o.path))).set 2 (.string (S o.dest))).set 3 (.int .i64 o.off)).set 4 (.int .i64 o.len)).set 5 (.slice ad o.data.length cp)
    unfold six
    simpa [aggO] using this
theorem six_far {W : World} {b c : Nat} {t : TypeId} {vs : Array Value} (h : Box W c t vs) (hne : b ≠ c) (o : Opr) (ad : Option Addr) (cp : Nat) : Box (six W b o ad cp) c t vs :=
  (((((h.setFar ⟨b, 0, none⟩ _ hne).setFar ⟨b, 1, none⟩ _ hne).setFar ⟨b, 2, none⟩ _ hne).setFar ⟨b, 3, none⟩ _ hne).setFar ⟨b, 4, none⟩ _ hne).setFar ⟨b, 5, none⟩ _ hne
theorem six_rd {W : World} {b : Nat} {v : Value} {l : List UInt8} (h : RdX W v l b) (o : Opr) (ad : Option Addr) (cp : Nat) : RdX (six W b o ad cp) v l b :=
  (((((h.setCell 0 _).setCell 1 _).setCell 2 _).setCell 3 _).setCell 4 _).setCell 5 _
theorem six_below {W w : World} {b : Nat} {B : Nat} (h : Below B w W) (hB : B ≤ b) (o : Opr) (ad : Option Addr) (cp : Nat) : Below B w (six W b o ad cp) :=
  (((((h.setCell (p := ⟨b, 0, none⟩) hB _).setCell (p := ⟨b, 1, none⟩) hB _).setCell (p := ⟨b, 2, none⟩) hB _).setCell (p := ⟨b, 3, none⟩) hB _).setCell (p := ⟨b, 4, none⟩) hB _).setCell (p := ⟨b, 5, none⟩) hB _
abbrev fr22 (A B : Value) (H : Nat) (u5 u6 u8 u9 u10 u11 : Value) : Act :=
  ⟨#[A, B, .pointer (some ⟨H, 0, none⟩), .pointer (some ⟨H + 1, 0, none⟩), .bool false, u5, u6, undef, u8, u9, u10, u11, undef, undef, undef, undef, undef, undef, undef, undef, undef, undef, undef, undef, undef, undef, undef, undef, undef, undef, undef, undef, undef, undef, undef, undef, undef, undef, undef, undef, undef, undef, undef, undef, undef, undef, undef, undef, undef, undef, undef, undef, undef], []⟩
/-- ahead of the stores: what has come so far -/
structure Pre22 (w : World) (As Bs : Array Value) (pa pb : Opr) (d0 d1 d2 d3 d4 d5 : Bool) (u5 u6 u8 u9 u10 u11 : Value) (w' : World) : Prop where
  bA : Box w' w.heap.size 44 As
  bB : Box w' (w.heap.size + 1) 44 Bs
  bel : Below w.heap.size w w'
  h0 : d0 = true → u8 = .agg As
  h2 : d2 = true → u10 = .agg Bs
  h1 : d1 = true → ∃ ad cp, u9 = .agg (aggO pa ad cp) ∧ RdB w' (.slice ad pa.data.length cp) pa.data
  h3 : d3 = true → ∃ ad cp, u11 = .agg (aggO pb ad cp) ∧ RdB w' (.slice ad pb.data.length cp) pb.data
  h4 : d4 = true → ∃ b, u5 = .pointer (some ⟨b, 0, none⟩) ∧ w.heap.size + 1 < b ∧ Box w' b 44 zero44
  h5 : d5 = true → ∃ b, u6 = .pointer (some ⟨b, 0, none⟩) ∧ w.heap.size + 1 < b ∧ Box w' b 44 zero44
  o31 : d3 = true → d2 = true
  ne : d4 = true → d5 = true → ∀ b c, u5 = .pointer (some ⟨b, 0, none⟩) → u6 = .pointer (some ⟨c, 0, none⟩) → b ≠ c
theorem Pre22.below {w : World} {As Bs : Array Value} {pa pb : Opr} {d0 d1 d2 d3 d4 d5 : Bool} {u5 u6 u8 u9 u10 u11 : Value} {w' w'' : World} (h : Pre22 w As Bs pa pb d0 d1 d2 d3 d4 d5 u5 u6 u8 u9 u10 u11 w') (hb : Below w'.heap.size w' w'') :
    Pre22 w As Bs pa pb d0 d1 d2 d3 d4 d5 u5 u6 u8 u9 u10 u11 w'' :=
  ⟨h.bA.below hb, h.bB.below hb, h.bel.trans (hb.mono h.bel.size), h.h0, h.h2, fun d => by obtain ⟨ad, cp, e, r⟩ := h.h1 d; exact ⟨ad, cp, e, r.below hb⟩, fun d => by obtain ⟨ad, cp, e, r⟩ := h.h3 d; exact ⟨ad, cp, e, r.below hb⟩,
   fun d => by obtain ⟨b, e, hl, r⟩ := h.h4 d; exact ⟨b, e, hl, r.below hb⟩, fun d => by obtain ⟨b, e, hl, r⟩ := h.h5 d; exact ⟨b, e, hl, r.below hb⟩, h.o31, h.ne⟩
/-- behind the first store, behind both -/
def Mid22 (w : World) (pa pb : Opr) (u5 u6 u9 u11 : Value) (w' : World) : Prop :=
  ∃ b5 b6 aa ca ab cb, u5 = .pointer (some ⟨b5, 0, none⟩) ∧ u6 = .pointer (some ⟨b6, 0, none⟩) ∧ u11 = .agg (aggO pb ab cb) ∧ Box w' b5 44 (aggO pa aa ca) ∧ Box w' b6 44 zero44 ∧ b6 ≠ b5 ∧ w.heap.size ≤ b6 ∧
    RdB w' (.slice aa pa.data.length ca) pa.data ∧ RdB w' (.slice ab pb.data.length cb) pb.data ∧ Below w.heap.size w w' ∧ u9 = u9
def End22 (w : World) (pa pb : Opr) (u5 u6 : Value) (w' : World) : Prop :=
  ∃ b5 b6 aa ca ab cb, u5 = .pointer (some ⟨b5, 0, none⟩) ∧ u6 = .pointer (some ⟨b6, 0, none⟩) ∧ Box w' b5 44 (aggO pa aa ca) ∧ Box w' b6 44 (aggO pb ab cb) ∧
    RdB w' (.slice aa pa.data.length ca) pa.data ∧ RdB w' (.slice ab pb.data.length cb) pb.data ∧ Below w.heap.size w w'
def Inv22 (w : World) (As Bs : Array Value) (pa pb : Opr) (l : List Bool) (a : Act) (w' : World) : Prop :=
  ∃ (u5 u6 u8 u9 u10 u11 : Value), a = fr22 (.agg As) (.agg Bs) w.heap.size u5 u6 u8 u9 u10 u11 ∧
    ((∃ d0 d1 d2 d3 d4 d5 : Bool, l = [d0, d1, d2, d3, d4, d5, false, false] ∧ Pre22 w As Bs pa pb d0 d1 d2 d3 d4 d5 u5 u6 u8 u9 u10 u11 w') ∨
     (l = [true, true, true, true, true, true, true, false] ∧ Mid22 w pa pb u5 u6 u9 u11 w') ∨ (l = [true, true, true, true, true, true, true, true] ∧ End22 w pa pb u5 u6 w'))
end Go.Proofs.YtpoongljokbgcaaDoor
