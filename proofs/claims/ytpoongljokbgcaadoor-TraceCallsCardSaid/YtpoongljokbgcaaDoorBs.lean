/- TraceCalls: for every two calls and every line the law returns true, makes nothing but new blocks, and the arguments read as they did. No condition beyond the row's own: the tables that it lists hold what the program's text lays. -/
import Derived.Test.YtpoongljokbgcaaDoorBr
import Derived.Test.YtpoongljokbgcaaDoorAp
import Derived.Test.YtpoongljokbgcaaDoorY
import Derived.SizedLaws
namespace Go.Proofs.YtpoongljokbgcaaDoor
open Go.ChangeShapes Go.WideShapes Go.ChangeAt Go.RowKit
theorem tabIs_of_vars {P : Program} {W : World} {name : String} {k : IntKind} {zs : List Int} {g : Nat} {t e : TypeId} {n : Nat}
    (hg : P.globalNamed name = some g) (hty : (P.globals[g]?).map (·.type) = some t) (ht : P.underlying t = some (.array n e)) (he : P.underlying e = some (.int k)) (hce : P.cellsOf e = 1) (hct : P.cellsOf t = n) :
    ∀ (laid : List (String × DataW Unit)) (ps : List MemPlace), (name, Lib.tabData k zs) ∈ laid → DataW.LaidVars P W laid ps → Lib.TabIs P W name k zs := by
  intro laid
  induction laid with
  | nil => intro ps h; simp at h
  | cons x r ih =>
    intro ps h hl
    obtain ⟨nm, d⟩ := x
    obtain ⟨g', t', cs, fuel, p, q, hg', ht', hvar, hd, hr, _⟩ := hl
    rcases List.mem_cons.1 h with h | h
    · injection h with h1 h2
      subst h1; subst h2
      obtain rfl := Option.some.inj (hg.symm.trans hg')
      obtain rfl := Option.some.inj (hty.symm.trans ht')
      unfold Lib.TabIs
      rw [hvar, ← Lib.cells_of_tab ht he hce hct hd]
    · exact ih q h hr
theorem laidMet_of_plain (P : Program) (laid : List (String × DataW Unit)) (w : World) (h : (laid.all fun x => x.2.handleName?.isNone) = true) (hl : laidMetH P laid w) : laidMet P laid w := by
  have e : (laid.filter fun x => x.2.handleName?.isSome) = [] := by
    rw [List.filter_eq_nil_iff]
    intro x hx hs
    have := List.all_eq_true.1 h x hx
    cases hn : x.2.handleName? with
    | none => rw [hn] at hs; cases hs
    | some s => rw [hn] at this; cases this
  unfold laidMetH at hl
  rw [e] at hl
  exact hl
theorem pow10_data : (Rows.laid_internal_strconv_uint64pow10 : DataW Unit) = Lib.tabData .u64 Lib.pow10Tab := by kernel_rfl
theorem pow_of {W : World} {laid : List (String × DataW Unit)} (hm : ("internal/strconv.uint64pow10", (Rows.laid_internal_strconv_uint64pow10 : DataW Unit)) ∈ laid) (hp : (laid.all fun x => x.2.handleName?.isNone) = true) (h : laidMetH Tryd.prog laid W) : Pw W := by
  obtain ⟨ps, hl, _⟩ := laidMet_of_plain _ _ _ hp h
  rw [pow10_data] at hm
  have ht := tabIs_of_vars (P := Tryd.prog) (g := 1) (t := 128) (e := 104) (n := 20) (by kernel_rfl) (by kernel_rfl) (by kernel_rfl) (by kernel_rfl) (by kernel_rfl) (by kernel_rfl) laid ps hm hl
  refine ⟨?_, ht⟩
  have hc := ht.cell (by kernel_rfl : Tryd.prog.globalNamed "internal/strconv.uint64pow10" = some 1) 0 (by rw [Lib.pow10Tab_length]; decide)
  exact cell_lt hc
section
variable {H : Type} {enc : TypeId × Value → H} {W : World} {base : Nat} {sp : Nat → Bool} {held : Bool}
theorem open_bytes_w {fuel : Nat} {c : Value} {x : DataW H × List MemPlace} (hsp : ∀ b, sp b = true) (h : DataW.trod enc Tryd.prog W base sp held fuel 28 [c] = some x) :
    ∃ (l : List UInt8) (a : Option Addr) (cap : Nat), c = .slice a l.length cap ∧ RdB W (.slice a l.length cap) l ∧ ∀ N, (∀ n ∈ x.1.weights Tryd.prog 28, n ≤ N) → l.length ≤ N := by
  obtain ⟨l, a, cap, hc, hr⟩ := open_bytes hsp h
  refine ⟨l, a, cap, hc, hr, fun N hN => ?_⟩
  rcases open_ints Tryd.underlying28 Tryd.underlying5 (by kernel_rfl) h with ⟨hcs, hx⟩ | ⟨a', len, cap', zs, hcs, _, hl, hmx, hz, hx, hcell, hwz⟩
  · rw [hc] at hcs
    simp only [List.cons.injEq, Value.slice.injEq] at hcs
    omega
  · rw [hc] at hcs
    simp only [List.cons.injEq, Value.slice.injEq] at hcs
    rw [hsp a'.block, if_pos rfl] at hz
    have hb : Tryd.prog.bytesOf 5 = 1 := by kernel_rfl
    have := hN (((lits (H := H) .u8 (zs.take len)).length + (lits (H := H) .u8 (zs.drop len)).length) * Tryd.prog.bytesOf 5) (by rw [hx]; simp [DataW.weights, Tryd.underlying28])
    rw [hb] at this
    simp [lits] at this
    omega
set_option maxRecDepth 100000 in
theorem open_op {b0 : Nat} {r : Reach} {v : Value} {d : DataW H} {p : List MemPlace} (hsp : ∀ b, sp b = true)
    (hv : Value.okWide Tryd.prog W r b0 44 v) (h : DataW.Trod enc Tryd.prog W base sp held 44 v d p) :
    ∃ (o : Opr) (dv : Value), v = opV o dv ∧ o.ok ∧ RdB W dv o.data ∧ ∀ N, (∀ n ∈ d.weights Tryd.prog 44, n ≤ N) → o.path.length ≤ N ∧ o.dest.length ≤ N ∧ o.data.length ≤ N := by
  have h44 : Tryd.prog.cellsOf 44 = 6 := by kernel_rfl
  have k3 : Tryd.prog.cellsOf 3 = 1 := by kernel_rfl
  have k9 : Tryd.prog.cellsOf 9 = 1 := by kernel_rfl
  have k2 : Tryd.prog.cellsOf 2 = 1 := by kernel_rfl
  have k28 : Tryd.prog.cellsOf 28 = 1 := by kernel_rfl
  obtain ⟨cs, rfl, hsz⟩ := okWide_struct Tryd.underlying44 hv
  obtain ⟨fuel, hf⟩ := h
  obtain ⟨ys, n, _, hy, _, hyl, hg⟩ := DataW.trod_struct Tryd.underlying44 hf
  obtain ⟨cl⟩ := cs
  match cl, hsz.trans h44, ys, hyl with
  | [c0, c1, c2, c3, c4, c5], _, [y0, y1, y2, y3, y4, y5], _ =>
  have q0 : DataW.trod enc Tryd.prog W base sp held n 3 (([c0, c1, c2, c3, c4, c5].drop 0).take (Tryd.prog.cellsOf 3)) = some y0 := hg 0 _ rfl
  have q1 : DataW.trod enc Tryd.prog W base sp held n 9 (([c0, c1, c2, c3, c4, c5].drop 1).take (Tryd.prog.cellsOf 9)) = some y1 := hg 1 _ rfl
  have q2 : DataW.trod enc Tryd.prog W base sp held n 9 (([c0, c1, c2, c3, c4, c5].drop 2).take (Tryd.prog.cellsOf 9)) = some y2 := hg 2 _ rfl
  have q3 : DataW.trod enc Tryd.prog W base sp held n 2 (([c0, c1, c2, c3, c4, c5].drop 3).take (Tryd.prog.cellsOf 2)) = some y3 := hg 3 _ rfl
  have q4 : DataW.trod enc Tryd.prog W base sp held n 2 (([c0, c1, c2, c3, c4, c5].drop 4).take (Tryd.prog.cellsOf 2)) = some y4 := hg 4 _ rfl
  have q5 : DataW.trod enc Tryd.prog W base sp held n 28 (([c0, c1, c2, c3, c4, c5].drop 5).take (Tryd.prog.cellsOf 28)) = some y5 := hg 5 _ rfl
  rw [k3] at q0
  rw [k9] at q1 q2
  rw [k2] at q3 q4
  rw [k28] at q5
  obtain ⟨kd, e0, _, w0⟩ := DataW.trod_int Tryd.underlying3 q0
  obtain ⟨s1, e1, r1, _⟩ := DataW.trod_string Tryd.underlying9 q1
  obtain ⟨s2, e2, r2, _⟩ := DataW.trod_string Tryd.underlying9 q2
  obtain ⟨of, e3, _, w3⟩ := DataW.trod_int Tryd.underlying2 q3
  obtain ⟨ln, e4, _, w4⟩ := DataW.trod_int Tryd.underlying2 q4
  obtain ⟨l, da, dc, e5, hd, hw⟩ := open_bytes_w hsp q5
  obtain rfl : c0 = .int .i64 kd := by simpa using e0
  obtain rfl : c1 = .string s1 := by simpa using e1
  obtain rfl : c2 = .string s2 := by simpa using e2
  obtain rfl : c3 = .int .i64 of := by simpa using e3
  obtain rfl : c4 = .int .i64 ln := by simpa using e4
  subst e5
  have hS : ∀ s : ByteArray, S s.data.toList = s := fun s => by unfold S; simp
  refine ⟨⟨kd, s1.data.toList, s2.data.toList, of, ln, l⟩, _, ?_, ⟨in64_of w0, in64_of w3, in64_of w4⟩, hd, fun N hN => ?_⟩
  · unfold opV; rw [hS, hS]
  · simp only [Prod.mk.injEq] at hy
    rw [hy.1] at hN
    have hparts : ∀ (j : Nat) (t : TypeId) (y : DataW H × List MemPlace), [3, 9, 9, 2, 2, 28][j]? = some t → [y0, y1, y2, y3, y4, y5][j]? = some y → ∀ n ∈ y.1.weights Tryd.prog t, n ≤ N := by
      intro j t y ht hy' n hn
      refine hN n ?_
      have : n ∈ DataW.weightsEach Tryd.prog [3, 9, 9, 2, 2, 28] ([y0, y1, y2, y3, y4, y5].map (·.1)) := DataW.weights_mem_each ht (by rw [List.getElem?_map, hy']; rfl) n hn
      simpa [DataW.weights, Tryd.underlying44] using this
    refine ⟨?_, ?_, ?_⟩
    · exact hparts 1 9 y1 rfl rfl _ (by rw [r1]; simp [DataW.weights])
    · exact hparts 2 9 y2 rfl rfl _ (by rw [r2]; simp [DataW.weights])
    · exact hw N (hparts 5 28 y5 rfl rfl)
end
end Go.Proofs.YtpoongljokbgcaaDoor
