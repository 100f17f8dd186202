/- Steps of walks in a range over a func: whole pages; what lies low is kept. -/
import Derived.Test.YtlgjlhgdpiipbaaZb
import Derived.RangeFuncNested
import Derived.RangeFuncBound
import Derived.RangeFuncCalls
import Derived.RangeFuncLeaves
import Derived.Shelf.Abstract
import Derived.Shelf.RegionOpen
import Derived.WalkKit
import Derived.OwnWalkIn
import Derived.TacticsInMore
import Derived.LoopNIn
import Derived.LoopIn
import Derived.Maps.OwnIn
import Derived.BigRegionIn
namespace Go.Proofs.Ytlgjlhgdpiipbaa
open Go.RowKit Go.Shelf
section
variable {F : Fence} {nF : Nat} {P : Program} {w w' : World} {ops : Array Oper} {rest : List Oper} {o : Oper} {a : Act} {Q : Exit → Act → World → Prop}
theorem wpListIn_load_var (hg : o.guard = none) (t : TypeId) (x : Operand) (ho : o.op = Op.load t x) (ad : Addr) (hx : a.eval x = .pointer (some ad)) (v : Value)
    (hl : (loadVar t ad).run P w = .ok v w) (hK : wpListIn F nF P ops Q rest (a.put o.dst v) w) : wpListIn F nF P ops Q (o :: rest) a w := by
  refine wpListIn_plain hg fun K hK' => ?_
  unfold Oper.wpIn
  refine ⟨by simp [Oper.about, ho], ?_⟩
  rw [Oper.semAt_plain F _ _ (by rw [ho]; intro c hc'; cases hc')]
  simp [execOp, ho, hx, Instr.loadAt, Instr.sureAddr, hl, Result.andThen]
  exact hK' _ _ hK
theorem wpListIn_store_var (hg : o.guard = none) (t : TypeId) (x y : Operand) (ho : o.op = Op.store t x y) (ad : Addr) (hx : a.eval x = .pointer (some ad)) (v : Value) (hy : a.eval y = v)
    (hl : (storeVar t ad v).run P w = .ok () w') (hK : wpListIn F nF P ops Q rest (a.put o.dst undef) w') : wpListIn F nF P ops Q (o :: rest) a w := by
  refine wpListIn_plain hg fun K hK' => ?_
  unfold Oper.wpIn
  refine ⟨by simp [Oper.about, ho], ?_⟩
  rw [Oper.semAt_plain F _ _ (by rw [ho]; intro c hc'; cases hc')]
  simp [execOp, ho, hx, hy, Instr.storeAt, Instr.sureAddr, hl, Result.andThen]
  exact hK' _ _ hK
theorem wpListIn_append_run (hg : o.guard = none) (d s : Operand) (t : TypeId) (ho : o.op = .call { callee := .builtin .append, args := #[d, s], argTypes := #[t, t] }) (v u : Value) (hd : a.eval d = v) (hs : a.eval s = u) (r : Value)
    (hrun : (Builtin.append_ #[t, t] o.type #[v, u]).run P w = .ok r w') (h : wpListIn F nF P ops Q rest (a.put o.dst r) w') : wpListIn F nF P ops Q (o :: rest) a w := by
  refine wpListIn_plain hg fun K hK' => ?_
  unfold Oper.wpIn
  refine ⟨by simp [Oper.about, ho, resolve, Target.leads, Sem.run_pure], ?_⟩
  rw [Oper.semAt_plain F _ _ (by rw [ho]; intro c hc'; cases hc')]
  simp [execOp, ho, resolve, invoke, builtin, hd, hs, hrun, Result.andThen]
  exact hK' _ _ h
end
/-- A slice literal of one page. -/
theorem wpListIn_build_pg {F : Fence} {nF : Nat} {w : World} {ops : Array Oper} {rest : List Oper} {o : Oper} {a : Act} {Q : Exit → Act → World → Prop} (hg : o.guard = none) (x : Operand) (ho : o.op = .buildSlice 56 1 #[(0, x)]) (l : List UInt8) (hx : a.eval x = .agg (cellsB l)) (hl : l.length = 288)
    (h : wpListIn F nF Try.prog ops Q rest (a.put o.dst (.slice (some ⟨w.heap.size, 0, none⟩) 1 1)) (w.alloc (.cells (cellsB l) 48))) : wpListIn F nF Try.prog ops Q (o :: rest) a w := by
  obtain ⟨i0, hi0, hz0, hz1, hz2⟩ := info_parts info48
  have e := Great.fill_whole (s := 288) (by decide) [.agg (cellsB l)] ((Array.range (1 * 288)).map ((Value.agg (cellsB (rep 288 0))).cells[· % (Value.agg (cellsB (rep 288 0))).cells.size]!)) (fun v hv => by
    rw [List.mem_singleton.1 hv]; show (cellsB l).size = 288; rw [cellsB_size, hl]) (by simp)
  have hr : (Instr.buildSlice 56 1 #[(0, a.eval x)]).run Try.prog w = .ok (.slice (some ⟨w.heap.size, 0, none⟩) 1 1) (w.alloc (.cells (cellsB l) 48)) := by
    refine run_buildSlice w 56 48 1 _ (cellsB l) i0 (.agg (cellsB (rep 288 0))) Try.underlying56 hi0 hz0 (by rw [hz1]; decide) (by rw [hz1]; decide) ?_
    rw [hz1, hx]
    refine Eq.trans ?_ (e.trans ?_)
    · rfl
    · simp [Value.cells]
  refine wpListIn_plain hg fun K hK' => ?_
  unfold Oper.wpIn
  refine ⟨by simp [Oper.about, ho], ?_⟩
  rw [Oper.semAt_plain F _ _ (by rw [ho]; intro c hc'; cases hc')]
  simp [execOp, ho, hr, Result.andThen]
  exact hK' _ _ h
/-- Cells below B lie as they lay. -/
structure KeepsLow (B : Nat) (W W' : World) : Prop where
  size : W.heap.size ≤ W'.heap.size
  same : ∀ (k : Nat) (o : Obj), k < B → W.heap[k]? = some o → o.isCells = true → W'.heap[k]? = some o
theorem KeepsLow.refl (B : Nat) (W : World) : KeepsLow B W W := ⟨Nat.le_refl _, fun _ _ _ h _ => h⟩
theorem KeepsLow.trans {B : Nat} {A C D : World} (h : KeepsLow B A C) (k : KeepsLow B C D) : KeepsLow B A D := ⟨Nat.le_trans h.size k.size, fun i o hi ho hc => k.same i o hi (h.same i o hi ho hc) hc⟩
theorem KeepsLow.put {B : Nat} {W : World} {l : Nat} {o o' : Obj} (hl : W.heap[l]? = some o) (hc : o.isCells = false) : KeepsLow B W (W.putObj l o') := by
  refine ⟨by simp [World.putObj], fun k o2 _ hk hc2 => ?_⟩
  have : k ≠ l := by rintro rfl; rw [hl] at hk; cases hk; rw [hc] at hc2; cases hc2
  rw [World.putObj_heap_other this]; exact hk
theorem Below.keepsLow {B : Nat} {W W' : World} (h : Below W.heap.size W W') : KeepsLow B W W' := ⟨h.size, fun k _ _ hk _ => (h.block k (Array.getElem?_eq_some_iff.1 hk).1).trans hk⟩
theorem below_keepsLow {B : Nat} {W W' : World} (h : Below B W W') : KeepsLow B W W' := ⟨h.size, fun k _ hb hk _ => (h.block k hb).trans hk⟩
/-- A slice that lies low reads on as it read. -/
theorem RdC.low {α : Type} {f : α → List Value} {k : Nat} (hf : ∀ x, (f x).length = k) (hk0 : 0 < k) {B : Nat} {W W' : World} {la : Option Addr} {n lc : Nat} {xs : List α} (h : RdC f k W (.slice la n lc) xs) (hk : KeepsLow B W W') (hb : ∀ b o, la = some ⟨b, o, none⟩ → b < B) : RdC f k W' (.slice la n lc) xs := by
  obtain ⟨a, c, h1, h2, h3⟩ := h
  cases h1
  refine ⟨_, _, rfl, h2, fun j x hj => ?_⟩
  obtain ⟨b', o, e1, e2, e3⟩ := h3 j x hj
  refine ⟨b', o, e1, Nat.lt_of_lt_of_le e2 hk.size, fun i u hu => ?_⟩
  have e4 := e3 i u hu
  have hlk : ∃ o : Obj, W.heap[b']? = some o ∧ o.isCells = true := by
    cases hh : W.heap[b']? with
    | none => simp [World.cell?, hh] at e4
    | some o => cases o <;> first | exact ⟨_, rfl, rfl⟩ | (simp [World.cell?, hh] at e4)
  obtain ⟨o2, ho, hc⟩ := hlk
  rw [World.cell?_of_block (w := W) (w' := W') (a := ⟨b', o + j * k + i, none⟩) ((hk.same b' o2 (hb b' o e1) ho hc).trans ho.symm)]
  exact e4
end Go.Proofs.Ytlgjlhgdpiipbaa
