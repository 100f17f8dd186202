/- Blocks by number: what a block holds; rows of bytes. -/
import Derived.Test.YtlgjlhgdpiipbaaI
import Derived.Test.YtlgjlhgdpiipbaaProg
import Derived.Deep.WholeRow
import Derived.Laws.CopyRow
namespace Go.Proofs.Ytlgjlhgdpiipbaa
open Go.RowKit
/-- A block of the call's own. -/
def Box (W : World) (b : Nat) (t : TypeId) (vs : Array Value) : Prop := W.heap[b]? = some (.cells vs t (0, 0))
section
variable {W W' : World} {b : Nat} {t : TypeId} {vs : Array Value}
theorem Box.lt (h : Box W b t vs) : b < W.heap.size := (Array.getElem?_eq_some_iff.1 h).1
theorem Box.cell (h : Box W b t vs) (j : Nat) : W.cell? ⟨b, j, none⟩ = vs[j]? := by
  have h : W.heap[b]? = some (.cells vs t (0, 0)) := h
  simp [World.cell?, h]
theorem Box.get (h : Box W b t vs) (j : Nat) (v : Value) (hv : vs[j]? = some v) : W.cell? ⟨b, j, none⟩ = some v := (h.cell j).trans hv
theorem Box.frozen (h : Box W b t vs) (j : Nat) : W.frozen? ⟨b, j, none⟩ = false := by
  have h : W.heap[b]? = some (.cells vs t (0, 0)) := h
  simp [World.frozen?, h]
theorem Box.below (h : Box W b t vs) (hb : Below W.heap.size W W') : Box W' b t vs := (hb.block b h.lt).trans h
theorem Box.set (h : Box W b t vs) (j : Nat) (v : Value) : Box (W.setCell ⟨b, j, none⟩ v) b t (vs.setIfInBounds j v) := by
  have h : W.heap[b]? = some (.cells vs t (0, 0)) := h
  simp [Box, World.setCell, Array.getElem?_modify, h]
theorem Box.new (W : World) (t : TypeId) (vs : Array Value) : Box (W.alloc (.cells vs t)) W.heap.size t vs := heap_alloc_new W _
theorem Box.alloc (h : Box W b t vs) (o : Obj) : Box (W.alloc o) b t vs := h.below ((Below.refl _ _).alloc (Nat.le_refl _) _)
theorem Box.drew (h : Box W b t vs) : Box W.drew b t vs := h
theorem Box.drewN (h : Box W b t vs) (n : Nat) : Box (W.drewN n) b t vs := h
theorem Box.grown {row : Option Nat} (h : Box W b t vs) (hg : W.grownBy W' row) (hne : some b ≠ row) : Box W' b t vs := (hg.block b h.lt hne).trans h
theorem Box.far (h : Box W b t vs) (p : Addr) (v : Value) (hp : p.block ≠ b) : Box (W.setCell p v) b t vs :=
  (Below.heap_setCell W p v b (fun e => hp e.symm)).trans h
end
/-- Bytes as cells. -/
def cellsB (l : List UInt8) : Array Value := (l.map byteV).toArray
@[simp] theorem cellsB_size (l : List UInt8) : (cellsB l).size = l.length := by simp [cellsB]
theorem cellsB_get (l : List UInt8) (j : Nat) (h : j < l.length) : (cellsB l)[j]? = some (byteV l[j]) := by
  simp [cellsB, h]
theorem cellsB_set (l : List UInt8) (j : Nat) (c : UInt8) : (cellsB l).setIfInBounds j (byteV c) = cellsB (l.set j c) := by
  simp [cellsB, List.map_set]
theorem cellsB_one (l : List UInt8) : (cellsB l).all (·.oneCell') = true := by
  simp [cellsB, byteV, Value.oneCell']
/-- So often the same byte. -/
def rep (n : Nat) (c : UInt8) : List UInt8 := List.replicate n c
@[simp] theorem rep_len (n : Nat) (c : UInt8) : (rep n c).length = n := List.length_replicate
/-- A page whose head is filled. -/
def fillTo (n i : Nat) (c d : UInt8) : List UInt8 := rep i c ++ rep (n - i) d
theorem fillTo_len (n i : Nat) (c d : UInt8) (h : i ≤ n) : (fillTo n i c d).length = n := by unfold fillTo; simp; omega
theorem fillTo_zero (n : Nat) (c d : UInt8) : fillTo n 0 c d = rep n d := by unfold fillTo rep; simp
theorem fillTo_all (n : Nat) (c d : UInt8) : fillTo n n c d = rep n c := by unfold fillTo rep; simp
theorem fillTo_set (n i : Nat) (c d : UInt8) (h : i < n) : (fillTo n i c d).set i c = fillTo n (i + 1) c d := by
  unfold fillTo rep
  rw [List.set_append, if_neg (by simp)]
  simp only [List.length_replicate, Nat.sub_self]
  obtain ⟨m, hm⟩ : ∃ m, n - i = m + 1 := ⟨n - i - 1, by omega⟩
  rw [hm, show n - (i + 1) = m by omega, List.replicate_succ, List.set_cons_zero, List.replicate_succ']
  simp
theorem zero110 (w : World) : (zeroValue 110).run Try.prog w = .ok (.agg (cellsB (rep 288 0))) w := by kernel_rfl
theorem zero48 (w : World) : (zeroValue 48).run Try.prog w = .ok (.agg (cellsB (rep 288 0))) w := by kernel_rfl
theorem size48 : (Try.prog.info? 48).map (·.size) = some 288 := by kernel_rfl
theorem size110 : (Try.prog.info? 110).map (·.size) = some 288 := by kernel_rfl
/-- A page's bytes as a value. -/
def pgV (l : List UInt8) : Value := .agg (cellsB l)
theorem load288 (W : World) (b o : Nat) (l : List UInt8) (hl : l.length = 288) (h : ∀ j (hj : j < l.length), W.cell? ⟨b, o + j, none⟩ = some (byteV l[j])) :
    (loadCellsFrom ⟨b, o, none⟩ 0 288 #[]).run Try.prog W = .ok (cellsB l) W := by
  have := run_loadCells_list (P := Try.prog) W ⟨b, o, none⟩ (l.map byteV) (fun j v hv => by
    have hadd : (⟨b, o, none⟩ : Addr).add j = ⟨b, o + j, none⟩ := by unfold Addr.add; split <;> simp_all
    rw [List.getElem?_map] at hv
    obtain ⟨c, hc, rfl⟩ := Option.map_eq_some_iff.1 hv
    obtain ⟨hj, rfl⟩ := List.getElem?_eq_some_iff.1 hc
    rw [hadd, h j hj])
  rw [List.length_map, hl] at this
  simpa [loadCells, cellsB] using this
theorem Box.load288 {W : World} {b : Nat} {t : TypeId} {l : List UInt8} (h : Box W b t (cellsB l)) (hl : l.length = 288) : (loadCellsFrom ⟨b, 0, none⟩ 0 288 #[]).run Try.prog W = .ok (cellsB l) W :=
  Go.Proofs.Ytlgjlhgdpiipbaa.load288 W b 0 l hl (fun j hj => by rw [Nat.zero_add]; exact h.get j _ (cellsB_get l j hj))
/-- A world with a block's cells laid anew. -/
theorem Box.store288 {W : World} {b : Nat} {t : TypeId} {vs : Array Value} {l : List UInt8} (h : Box W b t vs) (hs : vs.size = l.length) :
    (storeCells ⟨b, 0, none⟩ (cellsB l).toList 0).run Try.prog W = .ok () (W.setRow b (cellsB l)) ∧ Box (W.setRow b (cellsB l)) b t (cellsB l) ∧ W.grownBy (W.setRow b (cellsB l)) (some b) := by
  have h1 := run_storeCells_from (P := Try.prog) b t (cellsB l).toList 0 vs W h (by simp [hs]) (fun v hv => by
    simp [cellsB] at hv
    obtain ⟨c, _, rfl⟩ := hv
    rfl)
  rw [List.take_zero, List.nil_append, Array.toArray_toList] at h1
  exact ⟨h1, setRow_heap W b vs _ t (0, 0) h, rfl, rfl, rfl, by simp [World.setRow], fun k _ hne => setRow_other W b k _ (fun e => hne (by rw [e]))⟩
theorem Box.loadPg {W : World} {b : Nat} {t : TypeId} {l : List UInt8} (h : Box W b t (cellsB l)) (hl : l.length = 288) : (loadVar 48 ⟨b, 0, none⟩).run Try.prog W = .ok (pgV l) W :=
  run_loadVar_row W b t 48 (cellsB l) (0, 0) _ h Try.underlying48 rfl (by rw [cellsB_size, hl]; exact size48)
theorem Box.storePg {W : World} {b : Nat} {t : TypeId} {vs : Array Value} {l : List UInt8} (h : Box W b t vs) (hs : vs.size = 288) (hl : l.length = 288) :
    (storeVar 48 ⟨b, 0, none⟩ (pgV l)).run Try.prog W = .ok () (W.setRow b (cellsB l)) ∧ Box (W.setRow b (cellsB l)) b t (cellsB l) ∧ W.grownBy (W.setRow b (cellsB l)) (some b) := by
  refine ⟨run_storeVar_row W b t 48 vs (cellsB l) h (by rw [cellsB_size, hl]; exact size48) (by rw [hs, cellsB_size, hl]) (cellsB_one l), ?_, ?_⟩
  · exact setRow_heap W b vs _ t (0, 0) h
  · exact ⟨rfl, rfl, rfl, by simp [World.setRow], fun k _ hne => setRow_other W b k _ (fun e => hne (by rw [e]))⟩
/-- A load of a whole variable, by its run. -/
theorem wp_load_var {P : Program} {o : Oper} {a : Act} {w : World} {K : Act → World → Prop} {Q : Exit → Act → World → Prop} (t : TypeId) (x : Operand) (ho : o.op = Op.load t x) (ad : Addr) (hx : a.eval x = .pointer (some ad)) (v : Value)
    (hl : (loadVar t ad).run P w = .ok v w) (hK : K (a.put o.dst v) w) : Oper.wp P o a w K Q := by
  unfold Oper.wp
  simp [execOp, ho, hx, Instr.loadAt, Instr.sureAddr, hl, Result.andThen]
  exact hK
/-- A store of a whole variable, by its run. -/
theorem wp_store_var {P : Program} {o : Oper} {a : Act} {w w' : World} {K : Act → World → Prop} {Q : Exit → Act → World → Prop} (t : TypeId) (x y : Operand) (ho : o.op = Op.store t x y) (ad : Addr) (hx : a.eval x = .pointer (some ad)) (v : Value) (hy : a.eval y = v)
    (hl : (storeVar t ad v).run P w = .ok () w') (hK : K (a.put o.dst undef) w') : Oper.wp P o a w K Q := by
  unfold Oper.wp
  simp [execOp, ho, hx, hy, Instr.storeAt, Instr.sureAddr, hl, Result.andThen]
  exact hK
theorem wpList_load_var {P : Program} {ops : Array Oper} {rest : List Oper} {o : Oper} {a : Act} {w : World} {Q : Exit → Act → World → Prop} (hg : o.guard = none) (t : TypeId) (x : Operand) (ho : o.op = Op.load t x) (ad : Addr) (hx : a.eval x = .pointer (some ad)) (v : Value)
    (hl : (loadVar t ad).run P w = .ok v w) (hK : wpList P ops Q rest (a.put o.dst v) w) : wpList P ops Q (o :: rest) a w :=
  wpList_plain hg fun _ hK' => wp_load_var t x ho ad hx v hl (hK' _ _ hK)
theorem wpList_store_var {P : Program} {ops : Array Oper} {rest : List Oper} {o : Oper} {a : Act} {w w' : World} {Q : Exit → Act → World → Prop} (hg : o.guard = none) (t : TypeId) (x y : Operand) (ho : o.op = Op.store t x y) (ad : Addr) (hx : a.eval x = .pointer (some ad)) (v : Value) (hy : a.eval y = v)
    (hl : (storeVar t ad v).run P w = .ok () w') (hK : wpList P ops Q rest (a.put o.dst undef) w') : wpList P ops Q (o :: rest) a w :=
  wpList_plain hg fun _ hK' => wp_store_var t x y ho ad hx v hy hl (hK' _ _ hK)
end Go.Proofs.Ytlgjlhgdpiipbaa
