/- The reference's and the program's plain call (slipwayref27.Plain, trace.Plain). -/
import Derived.Test.YtpoongljokbgcaaDoorBe
import Derived.Test.YtpoongljokbgcaaDoorBa
namespace Go.Proofs.YtpoongljokbgcaaDoor
open Go.RowKit
theorem run_append_nilsrc {P : Program} {w : World} (base : Nat) (t ty e : TypeId) (i : TypeInfo) (size : Nat) (ht : P.underlying t = some (.slice e)) (hi : P.info? e = some i)
    (v : Value) (n : Nat) (xs : List Value) (hown : w.ownsRow base e size v n xs) (c : Nat) : (Builtin.append_ #[t, t] ty #[v, .slice none 0 c]).run P w = .ok v w := by
  rcases hown.2 with ⟨rfl, rfl⟩ | ⟨g, cap, cur, rfl, _, _, hnc, _⟩
  · simp [Builtin.append_, run_underlying ht, sizeOf, typeInfo, hi, Builtin.lenOf, Builtin.firstCells]
  · simp [Builtin.append_, run_underlying ht, sizeOf, typeInfo, hi, Builtin.lenOf, Builtin.firstCells, hnc, storeCells]
/-- append of whatever reads as a list onto a slice of the call's own. -/
theorem run_append_rd {α : Type} {enc : α → Value} {P : Program} {w : World} (base : Nat) (t ty e : TypeId) (i : TypeInfo) (z : Value) (bytes : Nat) (ht : P.underlying t = some (.slice e)) (hi : P.info? e = some i) (hz : i.zero = some z)
    (hsize : i.size = 1) (hby : i.bytes = bytes) (hzs : z.cells.size = 1)
    (v : Value) (n : Nat) (xs : List Value) (hown : w.ownsRow base e 1 v n xs) (x : Value) (l : List α) (hr : Rd enc w x l) (h1 : ∀ y, (enc y).oneCell' = true)
    (h63 : n + l.length ≤ maxLen) (hbytes : (n + l.length) * bytes ≤ 140737488355328) (hbase : base ≤ w.heap.size) :
    ∃ v' w', (Builtin.append_ #[t, t] ty #[v, x]).run P w = .ok v' w' ∧ w'.ownsRow base e 1 v' (n + l.length) (xs ++ l.map enc) ∧ w.grownBy w' v.ownBlock := by
  obtain ⟨a, cap, rfl, hcap, hc⟩ := hr
  cases a with
  | none =>
    have hl : l = [] := by
      cases l with
      | nil => rfl
      | cons y l => obtain ⟨b, o, h, _⟩ := hc 0 y rfl; cases h
    subst hl
    exact ⟨v, w, run_append_nilsrc base t ty e i 1 ht hi v n xs hown cap, by simpa using hown, World.grownBy.refl w _⟩
  | some ad =>
    obtain ⟨v', w', hrun, h2, h3, _⟩ := run_append_own_at (P := P) w base t ty e i z 1 bytes ht hi hz hsize hby hzs (by decide) v n xs hown ad l.length cap (l.map enc) (by simp)
      (fun j u hu => by
        rw [List.getElem?_map] at hu
        obtain ⟨y, hy, rfl⟩ := Option.map_eq_some_iff.1 hu
        obtain ⟨b, o, e1, _, hcell⟩ := hc j y hy
        cases e1
        have he : (⟨b, o, none⟩ : Addr).add j = ⟨b, o + j, none⟩ := by unfold Addr.add; split <;> simp_all
        rw [he]; exact hcell)
      (fun u hu => by obtain ⟨y, _, rfl⟩ := List.mem_map.1 hu; exact h1 y) h63 hbytes hbase
    exact ⟨v', w', hrun, h2, h3⟩
theorem wpList_append_rd {α : Type} {enc : α → Value} {P : Program} {w : World} {ops : Array Oper} {rest : List Oper} {o : Oper} {a : Act} {Q : Exit → Act → World → Prop} (hgd : o.guard = none) (s x : Operand) (t : TypeId)
    (ho : o.op = .call { callee := .builtin .append, args := #[s, x], argTypes := #[t, t] })
    (base : Nat) (e : TypeId) (i : TypeInfo) (z : Value) (bytes : Nat) (ht : P.underlying t = some (.slice e)) (hi : P.info? e = some i) (hz : i.zero = some z)
    (hsize : i.size = 1) (hby : i.bytes = bytes) (hzs : z.cells.size = 1)
    (v : Value) (n : Nat) (xs : List Value) (hs : a.eval s = v) (hown : w.ownsRow base e 1 v n xs) (u : Value) (l : List α) (hx : a.eval x = u) (hr : Rd enc w u l) (h1 : ∀ y, (enc y).oneCell' = true)
    (h63 : n + l.length ≤ maxLen) (hbytes : (n + l.length) * bytes ≤ 140737488355328) (hbase : base ≤ w.heap.size)
    (h : ∀ v' w', w'.ownsRow base e 1 v' (n + l.length) (xs ++ l.map enc) → w.grownBy w' v.ownBlock → wpList P ops Q rest (a.put o.dst v') w') : wpList P ops Q (o :: rest) a w := by
  refine wpList_plain hgd fun K hK => ?_
  obtain ⟨v', w', hrun, h2, h3⟩ := run_append_rd (P := P) base t o.type e i z bytes ht hi hz hsize hby hzs v n xs hown u l hr h1 h63 hbytes hbase
  unfold Oper.wp execOp
  simp only [ho, resolve, invoke, builtin, Sem.run_bind, Sem.run_pure, Result.andThen_ok, List.map_toArray, List.map_cons, List.map_nil, hs, hx, hrun]
  exact hK _ _ (h v' w' h2 h3)
def opV (o : Opr) (dv : Value) : Value := .agg #[.int .i64 o.kind, .string (S o.path), .string (S o.dest), .int .i64 o.off, .int .i64 o.len, dv]
/-- A call as an answer. -/
def PlainRes (o : Opr) (w : World) (e : Ending) (w' : World) : Prop :=
  ∃ dv, e = .returned (opV o dv) ∧ RdB w' dv o.data ∧ Below w.heap.size w w'
theorem plainRes_mk {o : Opr} {k : Int} {p t : List UInt8} {f n : Int} {l : List UInt8} {dv : Value} {w : World} {e : Ending} {w' : World} (h : o = ⟨k, p, t, f, n, l⟩)
    (he : e = .returned (.agg #[.int .i64 k, .string (S p), .string (S t), .int .i64 f, .int .i64 n, dv])) (hr : RdB w' dv l) (hb : Below w.heap.size w w') : PlainRes o w e w' := by
  subst h; exact ⟨dv, he, hr, hb⟩
theorem res27 {W : World} {b : Nat} {v0 v1 v2 v3 v4 v5 : Value} (h : Box W b 44 #[v0, v1, v2, v3, v4, v5]) {tmps : Array Value} (h2 : tmps.getD 2 undef = .pointer (some ⟨b, 0, none⟩)) :
    (results Tryd.f27 tmps).run Tryd.prog W = .ok (.agg #[v0, v1, v2, v3, v4, v5]) W := by
  have d0 := h.get 0 _ rfl
  have d1 := h.get 1 _ rfl
  have d2 := h.get 2 _ rfl
  have d3 := h.get 3 _ rfl
  have d4 := h.get 4 _ rfl
  have d5 := h.get 5 _ rfl
  simp at h2
  simp [results, Tryd.results27, go_sem, h2, d0, d1, d2, d3, d4, d5]
theorem res24 {W : World} {b : Nat} {v0 v1 v2 v3 v4 v5 : Value} (h : Box W b 44 #[v0, v1, v2, v3, v4, v5]) {tmps : Array Value} (h2 : tmps.getD 2 undef = .pointer (some ⟨b, 0, none⟩)) :
    (results Tryd.f24 tmps).run Tryd.prog W = .ok (.agg #[v0, v1, v2, v3, v4, v5]) W := by
  have d0 := h.get 0 _ rfl
  have d1 := h.get 1 _ rfl
  have d2 := h.get 2 _ rfl
  have d3 := h.get 3 _ rfl
  have d4 := h.get 4 _ rfl
  have d5 := h.get 5 _ rfl
  simp at h2
  simp [results, Tryd.results24, go_sem, h2, d0, d1, d2, d3, d4, d5]
end Go.Proofs.YtpoongljokbgcaaDoor
