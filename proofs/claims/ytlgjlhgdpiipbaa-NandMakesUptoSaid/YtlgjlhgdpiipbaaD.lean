/- Blocks of bytes of the call's own; slices.Clone of any bytes. -/
import Derived.Test.YtlgjlhgdpiipbaaC
import Derived.Lib.LazyBuf
import Derived.Laws.OwnMore
namespace Go.Proofs.Ytlgjlhgdpiipbaa
open Go.RowKit
/-- Block g holds these bytes first. -/
def OwnB (W : World) (g cap : Nat) (bs : List UInt8) : Prop :=
  ∃ cur, W.heap[g]? = some (.cells cur 5 (0, 0)) ∧ cur.size = cap ∧ bs.length ≤ cap ∧ cur.toList.take bs.length = bs.map byteV
theorem OwnB.lt {W : World} {g cap : Nat} {bs : List UInt8} (h : OwnB W g cap bs) : g < W.heap.size := by
  obtain ⟨cur, h1, _⟩ := h; exact (Array.getElem?_eq_some_iff.1 h1).1
theorem OwnB.cell {W : World} {g cap : Nat} {bs : List UInt8} (h : OwnB W g cap bs) (j : Nat) (hj : j < bs.length) : W.cell? ⟨g, j, none⟩ = some (byteV bs[j]) := by
  obtain ⟨cur, h1, h2, h3, h4⟩ := h
  have : (cur.toList.take bs.length)[j]? = some (byteV bs[j]) := by rw [h4, List.getElem?_map, List.getElem?_eq_getElem hj]; rfl
  rw [List.getElem?_take_of_lt hj] at this
  simp [World.cell?, h1]
  simpa using this
theorem OwnB.frozen {W : World} {g cap : Nat} {bs : List UInt8} (h : OwnB W g cap bs) (j : Nat) : W.frozen? ⟨g, j, none⟩ = false := by
  obtain ⟨cur, h1, _⟩ := h
  simp [World.frozen?, h1]
theorem OwnB.set {W : World} {g cap : Nat} {bs : List UInt8} (h : OwnB W g cap bs) (j : Nat) (c : UInt8) : OwnB (W.setCell ⟨g, j, none⟩ (byteV c)) g cap (bs.set j c) := by
  obtain ⟨cur, h1, h2, h3, h4⟩ := h
  refine ⟨cur.setIfInBounds j (byteV c), by simp [World.setCell, Array.getElem?_modify, h1], by simpa using h2, by simpa using h3, ?_⟩
  rw [List.length_set, Array.toList_setIfInBounds, List.map_set, ← h4, List.take_set]
theorem OwnB.far {W : World} {g cap : Nat} {bs : List UInt8} (h : OwnB W g cap bs) (p : Addr) (v : Value) (hp : p.block ≠ g) : OwnB (W.setCell p v) g cap bs := by
  obtain ⟨cur, h1, h2⟩ := h
  exact ⟨cur, (Below.heap_setCell W p v g (fun e => hp e.symm)).trans h1, h2⟩
theorem OwnB.alloc {W : World} {g cap : Nat} {bs : List UInt8} (h : OwnB W g cap bs) (o : Obj) : OwnB (W.alloc o) g cap bs := by
  have hl := h.lt
  obtain ⟨cur, h1, h2⟩ := h
  exact ⟨cur, (Below.heap_alloc W o g hl).trans h1, h2⟩
theorem OwnB.below {W W' : World} {g cap : Nat} {bs : List UInt8} (h : OwnB W g cap bs) (hb : Below W.heap.size W W') : OwnB W' g cap bs := by
  have hl := h.lt
  obtain ⟨cur, h1, h2⟩ := h
  exact ⟨cur, (hb.block g hl).trans h1, h2⟩
theorem OwnB.drew {W : World} {g cap : Nat} {bs : List UInt8} (h : OwnB W g cap bs) : OwnB W.drew g cap bs := h
theorem OwnB.of_own {W : World} {B : Nat} {v : Value} {bs : List UInt8} (h : W.ownsRow B 5 1 v bs.length (bs.map byteV)) (hne : bs ≠ []) : ∃ g cap, v = .slice (some ⟨g, 0, none⟩) bs.length cap ∧ B ≤ g ∧ OwnB W g cap bs := by
  obtain ⟨h0, ⟨rfl, h1⟩ | ⟨g, cap, cur, rfl, hg, hh, hc, hm, hs, ht⟩⟩ := h
  · exact absurd (List.eq_nil_of_length_eq_zero h1) hne
  · exact ⟨g, cap, rfl, hg, cur, hh, by simpa using hs, hc, by simpa using ht⟩
theorem OwnB.rd {W : World} {g cap : Nat} {bs : List UInt8} (h : OwnB W g cap bs) : RdB W (.slice (some ⟨g, 0, none⟩) bs.length cap) bs := by
  have hc : bs.length ≤ cap := by obtain ⟨_, _, _, hc, _⟩ := h; exact hc
  refine ⟨_, cap, rfl, hc, fun j x hj => ⟨g, 0, rfl, h.lt, ?_⟩⟩
  have hlt := (List.getElem?_eq_some_iff.1 hj).1
  rw [Nat.zero_add, h.cell j hlt]
  rw [List.getElem?_eq_getElem hlt] at hj
  cases hj; rfl
theorem infoByte : (Try.prog.info? 5).map (fun i => (i.zero, i.size, i.bytes)) = some (some (.int .u8 0), 1, 1) := by kernel_rfl
/-- append of whatever reads as a list of bytes onto a slice of the call's own. -/
theorem wpList_append_rdb {P : Program} {w : World} {ops : Array Oper} {rest : List Oper} {o : Oper} {a : Act} {Q : Exit → Act → World → Prop} (hgd : o.guard = none) (s x : Operand) (t : TypeId)
    (ho : o.op = .call { callee := .builtin .append, args := #[s, x], argTypes := #[t, t] }) (base : Nat) (hbase : base ≤ w.heap.size)
    (e : TypeId) (i : TypeInfo) (z : Value) (bytes : Nat) (ht : P.underlying t = some (.slice e)) (hi : P.info? e = some i) (hz : i.zero = some z)
    (hsize : i.size = 1) (hby : i.bytes = bytes) (hzs : z.cells.size = 1)
    (v : Value) (n : Nat) (xs : List Value) (hs : a.eval s = v) (hown : w.ownsRow base e 1 v n xs) (l : List UInt8) (hl : l ≠ []) (u : Value) (hx : a.eval x = u) (hr : RdB w u l)
    (h63 : n + l.length ≤ maxLen) (hbytes : (n + l.length) * bytes ≤ 140737488355328)
    (h : ∀ v' w', w'.ownsRow base e 1 v' (n + l.length) (xs ++ l.map byteV) → w.grownBy w' v.ownBlock → wpList P ops Q rest (a.put o.dst v') w') : wpList P ops Q (o :: rest) a w := by
  obtain ⟨b, o', cap, rfl, hc, hb, hcell⟩ := hr.at hl
  refine wpList_plain hgd fun K hK => ?_
  obtain ⟨v', w', hrun, h2, h3, _⟩ := run_append_own_at (P := P) w base t o.type e i z 1 bytes ht hi hz hsize hby hzs (by decide) v n xs hown ⟨b, o', none⟩ l.length cap (l.map byteV) (by simp)
    (fun j u hu => by
      rw [List.getElem?_map] at hu
      obtain ⟨y, hy, rfl⟩ := Option.map_eq_some_iff.1 hu
      have hj := (List.getElem?_eq_some_iff.1 hy).1
      have he : (⟨b, o', none⟩ : Addr).add j = ⟨b, o' + j, none⟩ := by unfold Addr.add; split <;> simp_all
      rw [he, hcell j hj]
      rw [List.getElem?_eq_getElem hj] at hy
      cases hy; rfl)
    (fun u hu => by obtain ⟨y, _, rfl⟩ := List.mem_map.1 hu; rfl) h63 hbytes hbase
  unfold Oper.wp execOp
  simp only [ho, resolve, invoke, builtin, Sem.run_bind, Sem.run_pure, Result.andThen_ok, List.map_toArray, List.map_cons, List.map_nil, hs, hx, hrun]
  exact hK _ _ (h v' w' h2 h3)
theorem append_nothing {P : Program} (W : World) (t ty e : TypeId) (i : TypeInfo) (ht : P.underlying t = some (.slice e)) (hi : P.info? e = some i) (v : Value) (a b : Option Addr) (c d : Nat) (hv : v = .slice a 0 c) :
    (Builtin.append_ #[t, t] ty #[v, .slice b 0 d]).run P W = .ok v W := by
  subst hv
  rcases a with _ | a <;> rcases b with _ | b <;> simp [Builtin.append_, run_underlying ht, sizeOf, typeInfo, hi, Builtin.lenOf, Builtin.firstCells, storeCells, loadCells, loadCellsFrom, Result.andThen]
/-- A block that reads so. -/
def RdRes (bs : List UInt8) (w : World) (e : Ending) (w' : World) : Prop := ∃ u, e = .returned u ∧ RdB w' u bs ∧ (bs ≠ [] → ∃ g cap, u = .slice (some ⟨g, 0, none⟩) bs.length cap ∧ w.heap.size ≤ g ∧ OwnB w' g cap bs) ∧ Below w.heap.size w w'
set_option maxRecDepth 100000 in
set_option maxHeartbeats 4000000 in
theorem clone_any (bs : List UInt8) (v : Value) (w : World) (hr : RdB w v bs) (hl : bs.length ≤ 1048576) : Calls Try.prog 33 #[v] w (RdRes bs w) := by
  obtain ⟨i0, hi0, hz0, hz1, hz2⟩ := info_parts infoByte
  obtain ⟨a, cap, hv⟩ := hr.len
  subst hv
  have hle : bs.length ≤ cap := by obtain ⟨_, _, h1, h2, _⟩ := hr; cases h1; exact h2
  have heq := fun W => Lib.run_eql_slice_nil (P := Try.prog) W 65 5 a bs.length cap 0 0 Try.underlying65
  rcases a with _ | a
  · have h0 : bs = [] := by
      rcases bs with _ | ⟨c, bs⟩
      · rfl
      · obtain ⟨b, o, c, hv, _⟩ := hr.at (by simp)
        cases hv
    subst h0
    simp only [List.length_nil] at heq ⊢
    replace hr := Lib.hid hr
    go_enter Try.func33, Try.ntmps33
    go_wp2_with fail
    go_ret
    exact ⟨_, rfl, Rd.nil _ _, fun h => absurd rfl h, Below.refl _ _⟩
  · have hB1 := (Below.refl _ w).alloc (Nat.le_refl _) (.cells #[] 5)
    have hr1 := hr.below hB1
    have ho : (w.alloc (.cells #[] 5)).ownsRow w.heap.size 5 1 (.slice (some ⟨w.heap.size, 0, none⟩) 0 0) 0 [] := ⟨rfl, .inr ⟨w.heap.size, 0, #[], rfl, Nat.le_refl _, heap_alloc_new w _, Nat.le_refl _, by unfold maxLen; omega, rfl, rfl⟩⟩
    by_cases hne : bs = []
    · subst hne
      simp only [List.length_nil] at heq ⊢
      have happ := fun ty => append_nothing (P := Try.prog) (w.alloc (.cells #[] 5)) 65 ty 5 i0 Try.underlying65 hi0 (.slice (some ⟨w.heap.size, 0, none⟩) 0 0) _ (some a) 0 cap rfl
      have hfin : RdB (w.alloc (.cells #[] 5)) (.slice (some ⟨w.heap.size, 0, none⟩) 0 0) [] := ⟨_, 0, rfl, Nat.le_refl _, fun j x h => by simp at h⟩
      replace hr1 := Lib.hid hr1
      replace ho := Lib.hid ho
      replace hfin := Lib.hid hfin
      replace hB1 := Lib.hid hB1
      clear hr
      go_enter Try.func33, Try.ntmps33
      go_wp2_with fail
      go_ret
      exact ⟨_, rfl, hfin.out, fun h => absurd rfl h, hB1.out⟩
    · have hfin : ∀ (v' : Value) (w2 : World), w2.ownsRow w.heap.size 5 1 v' bs.length (bs.map byteV) → (w.alloc (.cells #[] 5)).grownBy w2 (some w.heap.size) → RdRes bs w (.returned v') w2 := fun v' w2 h1 h2 => by
        obtain ⟨g, c, rfl, hg, hO⟩ := OwnB.of_own h1 hne
        exact ⟨_, rfl, hO.rd, fun _ => ⟨g, c, rfl, hg, hO⟩, hB1.grown h2 (by rw [World.size_alloc]; omega) (fun k e => by cases e; exact Nat.le_refl _)⟩
      replace hr1 := Lib.hid hr1
      replace ho := Lib.hid ho
      replace hfin := Lib.hid hfin
      replace hne := Lib.hid hne
      replace hl := Lib.hid hl
      clear hr hB1
      go_enter Try.func33, Try.ntmps33
      go_wp2_with (at_builtin; refine wpList_append_rdb rfl _ _ 65 rfl w.heap.size (by rw [World.size_alloc]; omega) 5 i0 (.int .u8 0) 1 Try.underlying65 hi0 hz0 hz1 hz2 rfl _ 0 [] rfl ho.out bs hne.out _ rfl hr1.out (by have := hl.out; unfold maxLen; omega) (by have := hl.out; omega) ?_; intro v' w2 ho2 hg2)
      rw [Nat.zero_add, List.nil_append] at ho2
      go_ret
      exact hfin.out v' w2 ho2 hg2
end Go.Proofs.Ytlgjlhgdpiipbaa
