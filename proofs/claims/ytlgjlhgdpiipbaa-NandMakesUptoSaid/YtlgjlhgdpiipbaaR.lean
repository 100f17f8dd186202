/- A chip under way: blocks behind one another. -/
import Derived.Test.YtlgjlhgdpiipbaaQ
import Derived.Maps.AppendAt
namespace Go.Proofs.Ytlgjlhgdpiipbaa
open Go.RowKit
/-- An append as one step of a region that draws its order, by its run. -/
theorem step_append_run {P : Program} {ops : Array Oper} {o : Oper} {a : Act} {w : World} {K : Act → World → Prop} {Q : Exit → Act → World → Prop} {E : Prop} (hgd : o.guard = none) (d s : Operand) (dT sT : TypeId)
    (ho : o.op = .call { callee := .builtin .append, args := #[d, s], argTypes := #[dT, sT] }) (v u : Value) (hd : a.eval d = v) (hs : a.eval s = u) (r : Value) (w' : World)
    (hrun : (Builtin.append_ #[dT, sT] o.type #[v, u]).run P w = .ok r w') (hK : K (a.put o.dst r) w') :
    if Region.wanted o (yielded ops a.tmps) = true then Oper.wp P o a w K Q else E := by
  have hw : Region.wanted o (yielded ops a.tmps) = true := by simp [Region.wanted, hgd]
  rw [if_pos hw]
  unfold Oper.wp
  simp [execOp, ho, resolve, invoke, builtin, hd, hs, hrun, Result.andThen]
  exact hK
theorem info81 : (Try.prog.info? 81).map (fun i => (i.zero, i.size, i.bytes)) = some (some (.pointer none), 1, 8) := by kernel_rfl
theorem info85 : (Try.prog.info? 85).map (fun i => (i.zero, i.size, i.bytes)) = some (some (.pointer none), 1, 8) := by kernel_rfl
theorem info67 : (Try.prog.info? 67).map (fun i => (i.zero, i.size, i.bytes)) = some (some (.agg #[.int .i64 0, .int .i64 0, .slice none 0 0]), 3, 40) := by kernel_rfl
theorem info48 : (Try.prog.info? 48).map (fun i => (i.zero, i.size, i.bytes)) = some (some (.agg (cellsB (rep 288 0))), 288, 288) := by kernel_rfl
theorem info3 : (Try.prog.info? 3).map (fun i => (i.zero, i.size, i.bytes)) = some (some (.int .i64 0), 1, 8) := by kernel_rfl
theorem grown_below {w w' : World} (h : Below w.heap.size w w') : w.grownBy w' none := ⟨h.os, h.tape, h.output, h.size, fun k hk _ => h.block k hk⟩
theorem own_below {w w' : World} {B : Nat} {e : TypeId} {size n : Nat} {v : Value} {xs : List Value} (h : w.ownsRow B e size v n xs) (hb : Below w.heap.size w w') : w'.ownsRow B e size v n xs := by
  refine h.kept (grown_below hb) ?_
  rcases h.2 with ⟨rfl, _⟩ | ⟨g, cap, cur, rfl, _⟩
  · exact .inl rfl
  · exact .inr (fun e => by simp [Value.ownBlock] at e)
/-- Pointers, appended one by one. -/
def ptrs (f : Nat → Nat) (n : Nat) : List Value := (List.range n).map fun x => ptr (f x)
theorem ptrs_succ (f : Nat → Nat) (n : Nat) : ptrs f (n + 1) = ptrs f n ++ [ptr (f n)] := by unfold ptrs; rw [List.range_succ, List.map_append]; rfl
theorem ptrs_len (f : Nat → Nat) (n : Nat) : (ptrs f n).length = n := by unfold ptrs; simp
theorem ptrs_congr {f g : Nat → Nat} {n : Nat} (h : ∀ x, x < n → f x = g x) : ptrs f n = ptrs g n := by
  unfold ptrs
  apply List.map_congr_left
  intro x hx
  rw [h x (List.mem_range.1 hx)]
theorem ptrs_get (f : Nat → Nat) (n j : Nat) (h : j < n) : (ptrs f n)[j]? = some (ptr (f j)) := by unfold ptrs; simp [h]
theorem own_row {W : World} {B : Nat} {e : TypeId} {f : Nat → Nat} {n : Nat} {v : Value} (h : W.ownsRow B e 1 v n (ptrs f n)) (hn : 0 < n) :
    ∃ g cur, v = .slice (some ⟨g, 0, none⟩) n cur.size ∧ B ≤ g ∧ Box W g e cur ∧ ∀ j, j < n → cur[j]? = some (ptr (f j)) := by
  obtain ⟨_, ⟨_, h0⟩ | ⟨g, cap, cur, hv, hg, hh, hc, hm, hs, ht⟩⟩ := h
  · omega
  · have hs' : cur.size = cap := by omega
    refine ⟨g, cur, by rw [hs', hv], hg, hh, fun j hj => ?_⟩
    have : (cur.toList.take (n * 1))[j]? = some (ptr (f j)) := by rw [ht]; exact ptrs_get f n j hj
    rw [List.getElem?_take_of_lt (by omega)] at this
    simpa using this
/-- One pointer more. -/
theorem own_push {W : World} {B : Nat} {t e : TypeId} {f : Nat → Nat} {n : Nat} {v : Value} (ht : Try.prog.underlying t = some (.slice e)) (hi : (Try.prog.info? e).map (fun i => (i.zero, i.size, i.bytes)) = some (some (.pointer none), 1, 8))
    (h : W.ownsRow B e 1 v n (ptrs f n)) (hn : n < 100000) (hB : B ≤ W.heap.size) (b : Nat) (s : Nat) (hs : W.cell? ⟨s, 0, none⟩ = some (ptr b)) (hfb : f n = b) (ty : TypeId) :
    ∃ v' w', (Builtin.append_ #[t, t] ty #[v, .slice (some ⟨s, 0, none⟩) 1 1]).run Try.prog W = .ok v' w' ∧ w'.ownsRow B e 1 v' (n + 1) (ptrs f (n + 1)) ∧ W.grownBy w' v.ownBlock ∧ (∀ k, v.ownBlock = some k → B ≤ k) := by
  obtain ⟨i0, hi0, hz0, hz1, hz2⟩ := info_parts hi
  obtain ⟨v', w', hr, h2, h3, _, _⟩ := run_append_own_at (P := Try.prog) W B t ty e i0 (.pointer none) 1 8 ht hi0 hz0 hz1 hz2 rfl (by decide) v n (ptrs f n) h ⟨s, 0, none⟩ 1 1 [ptr b] rfl (fun j u hu => by
    match j, hu with
    | 0, hu =>
      simp at hu; subst hu
      show W.cell? ((⟨s, 0, none⟩ : Addr).add 0) = _
      rw [show (⟨s, 0, none⟩ : Addr).add 0 = ⟨s, 0, none⟩ from by simp [Addr.add]]
      exact hs) (fun u hu => by simp at hu; subst hu; rfl) (by unfold maxLen; omega) (by omega) hB
  refine ⟨v', w', hr, ?_, h3, fun k hk => (h.lt k hk).1⟩
  rw [ptrs_succ, hfb]
  exact h2
theorem Box.grown_own {W W' : World} {B : Nat} {e t : TypeId} {n sz : Nat} {xs : List Value} {v : Value} {b : Nat} {vs : Array Value} (h : Box W b t vs) (ho : W.ownsRow B e sz v n xs) (hg : W.grownBy W' v.ownBlock) (hne : t ≠ e) : Box W' b t vs := by
  refine h.grown hg ?_
  intro heq
  obtain ⟨_, ⟨rfl, _⟩ | ⟨g, cap, cur, rfl, _, hh, _⟩⟩ := ho
  · cases heq
  · have : b = g := by simpa [Value.ownBlock] using heq
    subst this
    have h : W.heap[b]? = some (.cells vs t (0, 0)) := h
    rw [hh] at h
    cases h
    exact hne rfl
/-- A block under way: its pages so far. -/
structure BlkSt (B : Nat) (W : World) (kb j : Nat) (prv : Value) (qf : Nat → Nat) : Prop where
  box : Box W kb 84 #[prv, .int .i64 0, .int .i64 0, .bool false]
  own : W.ownsRow B 85 1 prv j (ptrs qf j)
  byt : ∀ x, x < j → Box W (qf x) 110 (cellsB (rep 288 255))
  inj : ∀ x, x < j → ∀ y, y < j → qf x = qf y → x = y
  ge : B ≤ kb ∧ ∀ x, x < j → B ≤ qf x
theorem BlkSt.below {B : Nat} {W W' : World} {kb j : Nat} {prv : Value} {qf : Nat → Nat} (h : BlkSt B W kb j prv qf) (hb : Below W.heap.size W W') : BlkSt B W' kb j prv qf :=
  ⟨h.box.below hb, own_below h.own hb, fun x hx => (h.byt x hx).below hb, h.inj, h.ge⟩
/-- A page more. -/
theorem BlkSt.push {B : Nat} {W : World} {kb j : Nat} {prv : Value} {qf : Nat → Nat} (h : BlkSt B W kb j prv qf) (hj : j < 1000) (hB : B ≤ W.heap.size) (b s : Nat) (hb : Box W b 110 (cellsB (rep 288 255))) (hbB : B ≤ b) (hnew : ∀ x, x < j → qf x ≠ b) (hs : W.cell? ⟨s, 0, none⟩ = some (ptr b)) (ty : TypeId) :
    ∃ v' w', (Builtin.append_ #[82, 82] ty #[prv, .slice (some ⟨s, 0, none⟩) 1 1]).run Try.prog W = .ok v' w' ∧ W.grownBy w' prv.ownBlock ∧ Below B W w' ∧ Box w' kb 84 #[prv, .int .i64 0, .int .i64 0, .bool false] ∧ (∃ a cap, v' = .slice a (j + 1) cap) ∧
      BlkSt B (w'.setCell ⟨kb, 0, none⟩ v') kb (j + 1) v' (fun x => if x = j then b else qf x) := by
  have hc : ptrs qf j = ptrs (fun x => if x = j then b else qf x) j := ptrs_congr (fun x hx => by rw [if_neg (by omega)])
  have ho := h.own
  rw [hc] at ho
  obtain ⟨v', w', hr, h2, h3, h4⟩ := own_push Try.underlying82 info85 ho (by omega) hB b s hs (if_pos rfl) ty
  have hbx := h.box.grown_own h.own h3 (by decide)
  have hv' : ∃ a cap, v' = .slice a (j + 1) cap := by
    obtain ⟨_, ⟨hv, h0⟩ | ⟨g, cap, cur, hv, _⟩⟩ := h2
    · omega
    · exact ⟨_, _, hv⟩
  refine ⟨v', w', hr, h3, (Below.refl B W).grown h3 hB h4, hbx, hv', ?_⟩
  have hkb := h.ge.1
  refine ⟨hbx.set 0 v', ?_, fun x hx => ?_, fun x hx y hy => ?_, hkb, fun x hx => ?_⟩
  · refine h2.kept (grown_set1 w' kb 0 v') ?_
    obtain ⟨_, ⟨hv, h0⟩ | ⟨g, cap, cur, hv, _, hh, _⟩⟩ := h2
    · omega
    · right
      intro e
      rw [hv] at e
      have : g = kb := by simpa [Value.ownBlock] using e
      subst this
      have hbx : w'.heap[g]? = some (.cells _ 84 (0, 0)) := hbx
      rw [hh] at hbx
      cases hbx
  · by_cases e : x = j
    · rw [if_pos e]
      have hb' := hb.grown_own h.own h3 (by decide)
      exact hb'.far _ _ (hbx.ne hb' (by decide))
    · rw [if_neg e]
      have hb' := (h.byt x (by omega)).grown_own h.own h3 (by decide)
      exact hb'.far _ _ (hbx.ne hb' (by decide))
  · by_cases e : x = j
    · rw [if_pos e]
      by_cases e' : y = j
      · intro _; rw [e, e']
      · rw [if_neg e']
        intro h'; exact absurd h'.symm (hnew y (by omega))
    · rw [if_neg e]
      by_cases e' : y = j
      · rw [if_pos e']
        intro h'; exact absurd h' (hnew x (by omega))
      · rw [if_neg e']
        exact h.inj x (by omega) y (by omega)
  · by_cases e : x = j
    · rw [if_pos e]; exact hbB
    · rw [if_neg e]; exact h.ge.2 x (by omega)
/-- A chip under way: its blocks so far. -/
structure NewSt (w W : World) (c bn pn i : Nat) (row : Value) (L : Lay) : Prop where
  chip : Box W c 77 #[.int .i64 bn, .int .i64 pn, row, .slice none 0 0, .int .i64 0, .bool false]
  own : W.ownsRow w.heap.size 81 1 row i (ptrs L.k i)
  blk : ∀ x, x < i → Box W (L.k x) 84 #[.slice (some ⟨L.p x, 0, none⟩) pn (L.parr x).size, .int .i64 0, .int .i64 0, .bool false]
  prow : ∀ x, x < i → Box W (L.p x) 85 (L.parr x)
  prowAt : ∀ x, x < i → ∀ j, j < pn → (L.parr x)[j]? = some (ptr (L.q x j))
  byt : ∀ x, x < i → ∀ j, j < pn → Box W (L.q x j) 110 (cellsB (rep 288 255))
  kinj : ∀ x, x < i → ∀ y, y < i → L.k x = L.k y → x = y
  pinj : ∀ x, x < i → ∀ y, y < i → L.p x = L.p y → x = y
  qinj : ∀ x, x < i → ∀ j, j < pn → ∀ y, y < i → ∀ j', j' < pn → L.q x j = L.q y j' → x = y ∧ j = j'
  gec : w.heap.size ≤ c
  gek : ∀ x, x < i → w.heap.size ≤ L.k x
  gep : ∀ x, x < i → w.heap.size ≤ L.p x
  geq : ∀ x, x < i → ∀ j, j < pn → w.heap.size ≤ L.q x j
  bel : Below w.heap.size w W
theorem NewSt.below {w W W' : World} {c bn pn i : Nat} {row : Value} {L : Lay} (h : NewSt w W c bn pn i row L) (hb : Below W.heap.size W W') : NewSt w W' c bn pn i row L where
  chip := h.chip.below hb
  own := own_below h.own hb
  blk x hx := (h.blk x hx).below hb
  prow x hx := (h.prow x hx).below hb
  prowAt := h.prowAt
  byt x hx j hj := (h.byt x hx j hj).below hb
  kinj := h.kinj
  pinj := h.pinj
  qinj := h.qinj
  gec := h.gec
  gek := h.gek
  gep := h.gep
  geq := h.geq
  bel := h.bel.trans (hb.mono h.bel.size)
def Lay.push (L : Lay) (i kb pb : Nat) (arr : Array Value) (qf : Nat → Nat) : Lay :=
  { L with k := fun x => if x = i then kb else L.k x, p := fun x => if x = i then pb else L.p x, parr := fun x => if x = i then arr else L.parr x, q := fun x => if x = i then qf else L.q x }
/-- A block more. -/
theorem NewSt.push {w W : World} {c bn pn i B : Nat} {row prv : Value} {L : Lay} {kb : Nat} {qf : Nat → Nat} (h : NewSt w W c bn pn i row L) (hb : BlkSt B W kb pn prv qf) (hi : i < 1000) (hp : 0 < pn)
    (hBlt : w.heap.size ≤ B ∧ c < B ∧ (∀ x, x < i → L.k x < B ∧ L.p x < B ∧ ∀ j, j < pn → L.q x j < B)) (s : Nat) (hs : W.cell? ⟨s, 0, none⟩ = some (ptr kb)) (ty : TypeId) :
    ∃ v' w' L', (Builtin.append_ #[75, 75] ty #[row, .slice (some ⟨s, 0, none⟩) 1 1]).run Try.prog W = .ok v' w' ∧ W.grownBy w' row.ownBlock ∧ Box w' c 77 #[.int .i64 bn, .int .i64 pn, row, .slice none 0 0, .int .i64 0, .bool false] ∧ (∃ a cap, v' = .slice a (i + 1) cap) ∧
      NewSt w (w'.setCell ⟨c, 2, none⟩ v') c bn pn (i + 1) v' L' := by
  obtain ⟨pb, arr, hprv, hpb, hpbx, hpa⟩ := own_row hb.own hp
  have hc : ptrs L.k i = ptrs (L.push i kb pb arr qf).k i := ptrs_congr (fun x hx => by show _ = if x = i then kb else L.k x; rw [if_neg (by omega)])
  have ho := h.own
  rw [hc] at ho
  obtain ⟨v', w', hr, h2, h3, h4⟩ := own_push Try.underlying75 info81 ho (by omega) h.bel.size kb s hs (by show (if i = i then kb else L.k i) = kb; rw [if_pos rfl]) ty
  have hcx := h.chip.grown_own h.own h3 (by decide)
  have hv' : ∃ a cap, v' = .slice a (i + 1) cap := by
    obtain ⟨_, ⟨hv, h0⟩ | ⟨g, cap, cur, hv, _⟩⟩ := h2
    · omega
    · exact ⟨_, _, hv⟩
  have keep : ∀ {x : Nat} {t : TypeId} {vs : Array Value}, Box W x t vs → t ≠ 81 → t ≠ 77 → Box (w'.setCell ⟨c, 2, none⟩ v') x t vs := fun hx h81 h77 =>
    (hx.grown_own h.own h3 h81).far _ _ (hcx.ne (hx.grown_own h.own h3 h81) (Ne.symm h77))
  refine ⟨v', w', L.push i kb pb arr qf, hr, h3, hcx, hv', ?_⟩
  obtain ⟨hB1, hB2, hB3⟩ := hBlt
  have hkB := hb.ge.1
  have hqB := hb.ge.2
  refine ⟨hcx.set 2 v', ?_, ?_, ?_, ?_, ?_, ?_, ?_, ?_, h.gec, ?_, ?_, ?_, ?_⟩
  · refine h2.kept (grown_set1 w' c 2 v') ?_
    obtain ⟨_, ⟨hv, h0⟩ | ⟨g, cap, cur, hv, _, hh, _⟩⟩ := h2
    · omega
    · right
      intro e
      rw [hv] at e
      have : g = c := by simpa [Value.ownBlock] using e
      subst this
      have hbx : w'.heap[g]? = some (.cells _ 77 (0, 0)) := hcx
      rw [hh] at hbx
      cases hbx
  · intro x hx
    show Box _ (if x = i then kb else L.k x) 84 #[.slice (some ⟨if x = i then pb else L.p x, 0, none⟩) pn (if x = i then arr else L.parr x).size, _, _, _]
    by_cases e : x = i
    · rw [if_pos e, if_pos e, if_pos e]
      have := hb.box
      rw [hprv] at this
      exact keep this (by decide) (by decide)
    · rw [if_neg e, if_neg e, if_neg e]
      exact keep (h.blk x (by omega)) (by decide) (by decide)
  · intro x hx
    show Box _ (if x = i then pb else L.p x) 85 (if x = i then arr else L.parr x)
    by_cases e : x = i
    · rw [if_pos e, if_pos e]; exact keep hpbx (by decide) (by decide)
    · rw [if_neg e, if_neg e]; exact keep (h.prow x (by omega)) (by decide) (by decide)
  · intro x hx j hj
    show (if x = i then arr else L.parr x)[j]? = some (ptr ((if x = i then qf else L.q x) j))
    by_cases e : x = i
    · rw [if_pos e, if_pos e]; exact hpa j hj
    · rw [if_neg e, if_neg e]; exact h.prowAt x (by omega) j hj
  · intro x hx j hj
    show Box _ ((if x = i then qf else L.q x) j) 110 _
    by_cases e : x = i
    · rw [if_pos e]; exact keep (hb.byt j hj) (by decide) (by decide)
    · rw [if_neg e]; exact keep (h.byt x (by omega) j hj) (by decide) (by decide)
  · intro x hx y hy
    show (if x = i then kb else L.k x) = (if y = i then kb else L.k y) → _
    by_cases e : x = i <;> by_cases e' : y = i
    · intro _; rw [e, e']
    · rw [if_pos e, if_neg e']; intro h'; have := (hB3 y (by omega)).1; omega
    · rw [if_neg e, if_pos e']; intro h'; have := (hB3 x (by omega)).1; omega
    · rw [if_neg e, if_neg e']; exact h.kinj x (by omega) y (by omega)
  · intro x hx y hy
    show (if x = i then pb else L.p x) = (if y = i then pb else L.p y) → _
    by_cases e : x = i <;> by_cases e' : y = i
    · intro _; rw [e, e']
    · rw [if_pos e, if_neg e']; intro h'; have := (hB3 y (by omega)).2.1; omega
    · rw [if_neg e, if_pos e']; intro h'; have := (hB3 x (by omega)).2.1; omega
    · rw [if_neg e, if_neg e']; exact h.pinj x (by omega) y (by omega)
  · intro x hx j hj y hy j' hj'
    show (if x = i then qf else L.q x) j = (if y = i then qf else L.q y) j' → _
    by_cases e : x = i <;> by_cases e' : y = i
    · rw [if_pos e, if_pos e']; intro h'; exact ⟨e.trans e'.symm, hb.inj j hj j' hj' h'⟩
    · rw [if_pos e, if_neg e']; intro h'; have := (hB3 y (by omega)).2.2 j' hj'; have := hqB j hj; omega
    · rw [if_neg e, if_pos e']; intro h'; have := (hB3 x (by omega)).2.2 j hj; have := hqB j' hj'; omega
    · rw [if_neg e, if_neg e']; exact h.qinj x (by omega) j hj y (by omega) j' hj'
  · intro x hx
    show _ ≤ (if x = i then kb else L.k x)
    by_cases e : x = i
    · rw [if_pos e]; omega
    · rw [if_neg e]; exact h.gek x (by omega)
  · intro x hx
    show _ ≤ (if x = i then pb else L.p x)
    by_cases e : x = i
    · rw [if_pos e]; omega
    · rw [if_neg e]; exact h.gep x (by omega)
  · intro x hx j hj
    show _ ≤ (if x = i then qf else L.q x) j
    by_cases e : x = i
    · rw [if_pos e]; have := hqB j hj; omega
    · rw [if_neg e]; exact h.geq x (by omega) j hj
  · exact (h.bel.grown h3 h.bel.size h4).setCell (p := ⟨c, 2, none⟩) h.gec v'
end Go.Proofs.Ytlgjlhgdpiipbaa
