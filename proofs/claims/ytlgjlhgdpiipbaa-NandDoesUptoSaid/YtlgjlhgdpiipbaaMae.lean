import Derived.Test.YtlgjlhgdpiipbaaMad
import Derived.Maps.AppendAt
/- A chip under way: blocks behind one another. -/
namespace Go.Proofs.Ytlgjlhgdpiipbaa
open Go.RowKit
/-- An append as one step of a region that draws its order, by its run. -/
theorem step_append_run {P : Program} {ops : Array Oper} {o : Oper} {a : Act} {w : World} {K : Act → World → Prop} {Q : Exit → Act → World → Prop} {E : Prop} (hgd : o.guard = none) (d s : Operand) (dT sT : TypeId)
    (ho : o.op = .call { callee := .builtin .append, args := #[d, s], argTypes := #[dT, sT] }) (v u : Value) (hd : a.eval d = v) (hs : a.eval s = u) (r : Value) (w' : World)
    (hrun : (Builtin.append_ #[dT, sT] o.type #[v, u]).run P w = .ok r w') (hK : K (a.put o.dst r) w') :
    if Region.wanted o (yielded ops a.tmps) = true then Oper.wp P o a w K Q else E := by
  have hw : Region.wanted o (yielded ops a.tmps) = true := by simp [Region.wanted, hgd]
  rw [if_pos hw]
  unfold Oper.wp
  simp [execOp, ho, resolve, invoke, builtin, hd, hs, hrun, Result.andThen]
  exact hK
theorem info81 : (Try.prog.info? 81).map (fun i => (i.zero, i.size, i.bytes)) = some (some (.pointer none), 1, 8) := by kernel_rfl
theorem info85 : (Try.prog.info? 85).map (fun i => (i.zero, i.size, i.bytes)) = some (some (.pointer none), 1, 8) := by kernel_rfl
theorem info67 : (Try.prog.info? 67).map (fun i => (i.zero, i.size, i.bytes)) = some (some (.agg #[.int .i64 0, .int .i64 0, .slice none 0 0]), 3, 40) := by kernel_rfl
theorem info48 : (Try.prog.info? 48).map (fun i => (i.zero, i.size, i.bytes)) = some (some (.agg (cellsB (rep 288 0))), 288, 288) := by kernel_rfl
theorem info3 : (Try.prog.info? 3).map (fun i => (i.zero, i.size, i.bytes)) = some (some (.int .i64 0), 1, 8) := by kernel_rfl
theorem grown_below {w w' : World} (h : Below w.heap.size w w') : w.grownBy w' none := ⟨h.os, h.tape, h.output, h.size, fun k hk _ => h.block k hk⟩
theorem own_below {w w' : World} {B : Nat} {e : TypeId} {size n : Nat} {v : Value} {xs : List Value} (h : w.ownsRow B e size v n xs) (hb : Below w.heap.size w w') : w'.ownsRow B e size v n xs := by
  refine h.kept (grown_below hb) ?_
  rcases h.2 with ⟨rfl, _⟩ | ⟨g, cap, cur, rfl, _⟩
  · exact .inl rfl
  · exact .inr (fun e => by simp [Value.ownBlock] at e)
/-- Pointers, appended one by one. -/
def ptrs (f : Nat → Nat) (n : Nat) : List Value := (List.range n).map fun x => ptr (f x)
theorem ptrs_succ (f : Nat → Nat) (n : Nat) : ptrs f (n + 1) = ptrs f n ++ [ptr (f n)] := by unfold ptrs; rw [List.range_succ, List.map_append]; rfl
theorem ptrs_len (f : Nat → Nat) (n : Nat) : (ptrs f n).length = n := by unfold ptrs; simp
theorem ptrs_congr {f g : Nat → Nat} {n : Nat} (h : ∀ x, x < n → f x = g x) : ptrs f n = ptrs g n := by
  unfold ptrs
  apply List.map_congr_left
  intro x hx
  rw [h x (List.mem_range.1 hx)]
theorem ptrs_get (f : Nat → Nat) (n j : Nat) (h : j < n) : (ptrs f n)[j]? = some (ptr (f j)) := by unfold ptrs; simp [h]
theorem own_row {W : World} {B : Nat} {e : TypeId} {f : Nat → Nat} {n : Nat} {v : Value} (h : W.ownsRow B e 1 v n (ptrs f n)) (hn : 0 < n) :
    ∃ g cur, v = .slice (some ⟨g, 0, none⟩) n cur.size ∧ B ≤ g ∧ Box W g e cur ∧ ∀ j, j < n → cur[j]? = some (ptr (f j)) := by
  obtain ⟨_, ⟨_, h0⟩ | ⟨g, cap, cur, hv, hg, hh, hc, hm, hs, ht⟩⟩ := h
  · omega
  · have hs' : cur.size = cap := by omega
    refine ⟨g, cur, by rw [hs', hv], hg, hh, fun j hj => ?_⟩
    have : (cur.toList.take (n * 1))[j]? = some (ptr (f j)) := by rw [ht]; exact ptrs_get f n j hj
    rw [List.getElem?_take_of_lt (by omega)] at this
    simpa using this
/-- One pointer more. -/
theorem own_push {W : World} {B : Nat} {t e : TypeId} {f : Nat → Nat} {n : Nat} {v : Value} (ht : Try.prog.underlying t = some (.slice e)) (hi : (Try.prog.info? e).map (fun i => (i.zero, i.size, i.bytes)) = some (some (.pointer none), 1, 8))
    (h : W.ownsRow B e 1 v n (ptrs f n)) (hn : n < 100000) (hB : B ≤ W.heap.size) (b : Nat) (s : Nat) (hs : W.cell? ⟨s, 0, none⟩ = some (ptr b)) (hfb : f n = b) (ty : TypeId) :
    ∃ v' w', (Builtin.append_ #[t, t] ty #[v, .slice (some ⟨s, 0, none⟩) 1 1]).run Try.prog W = .ok v' w' ∧ w'.ownsRow B e 1 v' (n + 1) (ptrs f (n + 1)) ∧ W.grownBy w' v.ownBlock ∧ (∀ k, v.ownBlock = some k → B ≤ k) := by
  obtain ⟨i0, hi0, hz0, hz1, hz2⟩ := info_parts hi
  obtain ⟨v', w', hr, h2, h3, _, _⟩ := run_append_own_at (P := Try.prog) W B t ty e i0 (.pointer none) 1 8 ht hi0 hz0 hz1 hz2 rfl (by decide) v n (ptrs f n) h ⟨s, 0, none⟩ 1 1 [ptr b] rfl (fun j u hu => by
    match j, hu with
    | 0, hu =>
      simp at hu; subst hu
      show W.cell? ((⟨s, 0, none⟩ : Addr).add 0) = _
      rw [show (⟨s, 0, none⟩ : Addr).add 0 = ⟨s, 0, none⟩ from by simp [Addr.add]]
      exact hs) (fun u hu => by simp at hu; subst hu; rfl) (by unfold maxLen; omega) (by omega) hB
  refine ⟨v', w', hr, ?_, h3, fun k hk => (h.lt k hk).1⟩
  rw [ptrs_succ, hfb]
  exact h2
theorem Box.grown_own {W W' : World} {B : Nat} {e t : TypeId} {n sz : Nat} {xs : List Value} {v : Value} {b : Nat} {vs : Array Value} (h : Box W b t vs) (ho : W.ownsRow B e sz v n xs) (hg : W.grownBy W' v.ownBlock) (hne : t ≠ e) : Box W' b t vs := by
  refine h.grown hg ?_
  intro heq
  obtain ⟨_, ⟨rfl, _⟩ | ⟨g, cap, cur, rfl, _, hh, _⟩⟩ := ho
  · cases heq
  · have : b = g := by simpa [Value.ownBlock] using heq
    subst this
    have h : W.heap[b]? = some (.cells vs t (0, 0)) := h
    rw [hh] at h
    cases h
    exact hne rfl
/-- A block under way: its pages so far. -/
structure BlkSt (B : Nat) (W : World) (kb j : Nat) (prv : Value) (qf : Nat → Nat) : Prop where
  box : Box W kb 84 #[prv, .int .i64 0, .int .i64 0, .bool false]
  own : W.ownsRow B 85 1 prv j (ptrs qf j)
  byt : ∀ x, x < j → Box W (qf x) 110 (cellsB (rep 288 255))
  inj : ∀ x, x < j → ∀ y, y < j → qf x = qf y → x = y
  ge : B ≤ kb ∧ ∀ x, x < j → B ≤ qf x
theorem BlkSt.below {B : Nat} {W W' : World} {kb j : Nat} {prv : Value} {qf : Nat → Nat} (h : BlkSt B W kb j prv qf) (hb : Below W.heap.size W W') : BlkSt B W' kb j prv qf :=
  ⟨h.box.below hb, own_below h.own hb, fun x hx => (h.byt x hx).below hb, h.inj, h.ge⟩
/-- A page more. -/
theorem BlkSt.push {B : Nat} {W : World} {kb j : Nat} {prv : Value} {qf : Nat → Nat} (h : BlkSt B W kb j prv qf) (hj : j < 1000) (hB : B ≤ W.heap.size) (b s : Nat) (hb : Box W b 110 (cellsB (rep 288 255))) (hbB : B ≤ b) (hnew : ∀ x, x < j → qf x ≠ b) (hs : W.cell? ⟨s, 0, none⟩ = some (ptr b)) (ty : TypeId) :
    ∃ v' w', (Builtin.append_ #[82, 82] ty #[prv, .slice (some ⟨s, 0, none⟩) 1 1]).run Try.prog W = .ok v' w' ∧ W.grownBy w' prv.ownBlock ∧ Below B W w' ∧ Box w' kb 84 #[prv, .int .i64 0, .int .i64 0, .bool false] ∧ (∃ a cap, v' = .slice a (j + 1) cap) ∧
      BlkSt B (w'.setCell ⟨kb, 0, none⟩ v') kb (j + 1) v' (fun x => if x = j then b else qf x) := by
  have hc : ptrs qf j = ptrs (fun x => if x = j then b else qf x) j := ptrs_congr (fun x hx => by rw [if_neg (by omega)])
  have ho := h.own
  rw [hc] at ho
  obtain ⟨v', w', hr, h2, h3, h4⟩ := own_push Try.underlying82 info85 ho (by omega) hB b s hs (if_pos rfl) ty
  have hbx := h.box.grown_own h.own h3 (by decide)
  have hv' : ∃ a cap, v' = .slice a (j + 1) cap := by
    obtain ⟨_, ⟨hv, h0⟩ | ⟨g, cap, cur, hv, _⟩⟩ := h2
    · omega
    · exact ⟨_, _, hv⟩
  refine ⟨v', w', hr, h3, (Below.refl B W).grown h3 hB h4, hbx, hv', ?_⟩
  have hkb := h.ge.1
  refine ⟨hbx.set 0 v', ?_, fun x hx => ?_, fun x hx y hy => ?_, hkb, fun x hx => ?_⟩
  · refine h2.kept (grown_set1 w' kb 0 v') ?_
    obtain ⟨_, ⟨hv, h0⟩ | ⟨g, cap, cur, hv, _, hh, _⟩⟩ := h2
    · omega
    · right
      intro e
      rw [hv] at e
      have : g = kb := by simpa [Value.ownBlock] using e
      subst this
      have hbx : w'.heap[g]? = some (.cells _ 84 (0, 0)) := hbx
      rw [hh] at hbx
      cases hbx
  · by_cases e : x = j
    · rw [if_pos e]
      have hb' := hb.grown_own h.own h3 (by decide)
      exact hb'.far _ _ (hbx.ne hb' (by decide))
    · rw [if_neg e]
      have hb' := (h.byt x (by omega)).grown_own h.own h3 (by decide)
      exact hb'.far _ _ (hbx.ne hb' (by decide))
  · by_cases e : x = j
    · rw [if_pos e]
      by_cases e' : y = j
      · intro _; rw [e, e']
      · rw [if_neg e']
        intro h'; exact absurd h'.symm (hnew y (by omega))
    · rw [if_neg e]
      by_cases e' : y = j
      · rw [if_pos e']
        intro h'; exact absurd h' (hnew x (by omega))
      · rw [if_neg e']
        exact h.inj x (by omega) y (by omega)
  · by_cases e : x = j
    · rw [if_pos e]; exact hbB
    · rw [if_neg e]; exact h.ge.2 x (by omega)
/-- A chip under way: its blocks so far. -/
structure NewSt (w W : World) (c bn pn i : Nat) (row : Value) (L : Lay) : Prop where
  chip : Box W c 77 #[.int .i64 bn, .int .i64 pn, row, .slice none 0 0, .int .i64 0, .bool false]
  own : W.ownsRow w.heap.size 81 1 row i (ptrs L.k i)
  blk : ∀ x, x < i → Box W (L.k x) 84 #[.slice (some ⟨L.p x, 0, none⟩) pn (L.parr x).size, .int .i64 0, .int .i64 0, .bool false]
  prow : ∀ x, x < i → Box W (L.p x) 85 (L.parr x)
  prowAt : ∀ x, x < i → ∀ j, j < pn → (L.parr x)[j]? = some (ptr (L.q x j))
  byt : ∀ x, x < i → ∀ j, j < pn → Box W (L.q x j) 110 (cellsB (rep 288 255))
  kinj : ∀ x, x < i → ∀ y, y < i → L.k x = L.k y → x = y
  pinj : ∀ x, x < i → ∀ y, y < i → L.p x = L.p y → x = y
  qinj : ∀ x, x < i → ∀ j, j < pn → ∀ y, y < i → ∀ j', j' < pn → L.q x j = L.q y j' → x = y ∧ j = j'
  gec : w.heap.size ≤ c
  gek : ∀ x, x < i → w.heap.size ≤ L.k x
  gep : ∀ x, x < i → w.heap.size ≤ L.p x
  geq : ∀ x, x < i → ∀ j, j < pn → w.heap.size ≤ L.q x j
  bel : Below w.heap.size w W
theorem NewSt.below {w W W' : World} {c bn pn i : Nat} {row : Value} {L : Lay} (h : NewSt w W c bn pn i row L) (hb : Below W.heap.size W W') : NewSt w W' c bn pn i row L where
  chip := h.chip.below hb
  own := own_below h.own hb
  blk x hx := (h.blk x hx).below hb
  prow x hx := (h.prow x hx).below hb
  prowAt := h.prowAt
  byt x hx j hj := (h.byt x hx j hj).below hb
  kinj := h.kinj
  pinj := h.pinj
  qinj := h.qinj
  gec := h.gec
  gek := h.gek
  gep := h.gep
  geq := h.geq
  bel := h.bel.trans (hb.mono h.bel.size)
def Lay.push (L : Lay) (i kb pb : Nat) (arr : Array Value) (qf : Nat → Nat) : Lay :=
  { L with k := fun x => if x = i then kb else L.k x, p := fun x => if x = i then pb else L.p x, parr := fun x => if x = i then arr else L.parr x, q := fun x => if x = i then qf else L.q x }
/-- A block more. -/
theorem NewSt.push {w W : World} {c bn pn i B : Nat} {row prv : Value} {L : Lay} {kb : Nat} {qf : Nat → Nat} (h : NewSt w W c bn pn i row L) (hb : BlkSt B W kb pn prv qf) (hi : i < 1000) (hp : 0 < pn)
    (hBlt : w.heap.size ≤ B ∧ c < B ∧ (∀ x, x < i → L.k x < B ∧ L.p x < B ∧ ∀ j, j < pn → L.q x j < B)) (s : Nat) (hs : W.cell? ⟨s, 0, none⟩ = some (ptr kb)) (ty : TypeId) :
    ∃ v' w' L', (Builtin.append_ #[75, 75] ty #[row, .slice (some ⟨s, 0, none⟩) 1 1]).run Try.prog W = .ok v' w' ∧ W.grownBy w' row.ownBlock ∧ Box w' c 77 #[.int .i64 bn, .int .i64 pn, row, .slice none 0 0, .int .i64 0, .bool false] ∧ (∃ a cap, v' = .slice a (i + 1) cap) ∧
      NewSt w (w'.setCell ⟨c, 2, none⟩ v') c bn pn (i + 1) v' L' := by
  obtain ⟨pb, arr, hprv, hpb, hpbx, hpa⟩ := own_row hb.own hp
  have hc : ptrs L.k i = ptrs (L.push i kb pb arr qf).k i := ptrs_congr (fun x hx => by show _ = if x = i then kb else L.k x; rw [if_neg (by omega)])
  have ho := h.own
  rw [hc] at ho
  obtain ⟨v', w', hr, h2, h3, h4⟩ := own_push Try.underlying75 info81 ho (by omega) h.bel.size kb s hs (by show (if i = i then kb else L.k i) = kb; rw [if_pos rfl]) ty
  have hcx := h.chip.grown_own h.own h3 (by decide)
  have hv' : ∃ a cap, v' = .slice a (i + 1) cap := by
    obtain ⟨_, ⟨hv, h0⟩ | ⟨g, cap, cur, hv, _⟩⟩ := h2
    · omega
    · exact ⟨_, _, hv⟩
  have keep : ∀ {x : Nat} {t : TypeId} {vs : Array Value}, Box W x t vs → t ≠ 81 → t ≠ 77 → Box (w'.setCell ⟨c, 2, none⟩ v') x t vs := fun hx h81 h77 =>
    (hx.grown_own h.own h3 h81).far _ _ (hcx.ne (hx.grown_own h.own h3 h81) (Ne.symm h77))
  refine ⟨v', w', L.push i kb pb arr qf, hr, h3, hcx, hv', ?_⟩
  obtain ⟨hB1, hB2, hB3⟩ := hBlt
  have hkB := hb.ge.1
  have hqB := hb.ge.2
  refine ⟨hcx.set 2 v', ?_, ?_, ?_, ?_, ?_, ?_, ?_, ?_, h.gec, ?_, ?_, ?_, ?_⟩
  · refine h2.kept (grown_set1 w' c 2 v') ?_
    obtain ⟨_, ⟨hv, h0⟩ | ⟨g, cap, cur, hv, _, hh, _⟩⟩ := h2
    · omega
    · right
      intro e
      rw [hv] at e
      have : g = c := by simpa [Value.ownBlock] using e
      subst this
      have hbx : w'.heap[g]? = some (.cells _ 77 (0, 0)) := hcx
      rw [hh] at hbx
      cases hbx
  · intro x hx
    show Box _ (if x = i then kb else L.k x) 84 #[.slice (some ⟨if x = i then pb else L.p x, 0, none⟩) pn (if x = i then arr else L.parr x).size, _, _, _]
    by_cases e : x = i
    · rw [if_pos e, if_pos e, if_pos e]
      have := hb.box
      rw [hprv] at this
      exact keep this (by decide) (by decide)
    · rw [if_neg e, if_neg e, if_neg e]
      exact keep (h.blk x (by omega)) (by decide) (by decide)
  · intro x hx
    show Box _ (if x = i then pb else L.p x) 85 (if x = i then arr else L.parr x)
    by_cases e : x = i
    · rw [if_pos e, if_pos e]; exact keep hpbx (by decide) (by decide)
    · rw [if_neg e, if_neg e]; exact keep (h.prow x (by omega)) (by decide) (by decide)
  · intro x hx j hj
    show (if x = i then arr else L.parr x)[j]? = some (ptr ((if x = i then qf else L.q x) j))
    by_cases e : x = i
    · rw [if_pos e, if_pos e]; exact hpa j hj
    · rw [if_neg e, if_neg e]; exact h.prowAt x (by omega) j hj
  · intro x hx j hj
    show Box _ ((if x = i then qf else L.q x) j) 110 _
    by_cases e : x = i
    · rw [if_pos e]; exact keep (hb.byt j hj) (by decide) (by decide)
    · rw [if_neg e]; exact keep (h.byt x (by omega) j hj) (by decide) (by decide)
  · intro x hx y hy
    show (if x = i then kb else L.k x) = (if y = i then kb else L.k y) → _
    by_cases e : x = i <;> by_cases e' : y = i
    · intro _; rw [e, e']
    · rw [if_pos e, if_neg e']; intro h'; have := (hB3 y (by omega)).1; omega
    · rw [if_neg e, if_pos e']; intro h'; have := (hB3 x (by omega)).1; omega
    · rw [if_neg e, if_neg e']; exact h.kinj x (by omega) y (by omega)
  · intro x hx y hy
    show (if x = i then pb else L.p x) = (if y = i then pb else L.p y) → _
    by_cases e : x = i <;> by_cases e' : y = i
    · intro _; rw [e, e']
    · rw [if_pos e, if_neg e']; intro h'; have := (hB3 y (by omega)).2.1; omega
    · rw [if_neg e, if_pos e']; intro h'; have := (hB3 x (by omega)).2.1; omega
    · rw [if_neg e, if_neg e']; exact h.pinj x (by omega) y (by omega)
  · intro x hx j hj y hy j' hj'
    show (if x = i then qf else L.q x) j = (if y = i then qf else L.q y) j' → _
    by_cases e : x = i <;> by_cases e' : y = i
    · rw [if_pos e, if_pos e']; intro h'; exact ⟨e.trans e'.symm, hb.inj j hj j' hj' h'⟩
    · rw [if_pos e, if_neg e']; intro h'; have := (hB3 y (by omega)).2.2 j' hj'; have := hqB j hj; omega
    · rw [if_neg e, if_pos e']; intro h'; have := (hB3 x (by omega)).2.2 j hj; have := hqB j' hj'; omega
    · rw [if_neg e, if_neg e']; exact h.qinj x (by omega) j hj y (by omega) j' hj'
  · intro x hx
    show _ ≤ (if x = i then kb else L.k x)
    by_cases e : x = i
    · rw [if_pos e]; omega
    · rw [if_neg e]; exact h.gek x (by omega)
  · intro x hx
    show _ ≤ (if x = i then pb else L.p x)
    by_cases e : x = i
    · rw [if_pos e]; omega
    · rw [if_neg e]; exact h.gep x (by omega)
  · intro x hx j hj
    show _ ≤ (if x = i then qf else L.q x) j
    by_cases e : x = i
    · rw [if_pos e]; have := hqB j hj; omega
    · rw [if_neg e]; exact h.geq x (by omega) j hj
  · exact (h.bel.grown h3 h.bel.size h4).setCell (p := ⟨c, 2, none⟩) h.gec v'
end Go.Proofs.Ytlgjlhgdpiipbaa
/- A new chip: plain; in memory; its events. -/
namespace Go.Proofs.Ytlgjlhgdpiipbaa
open Go.RowKit
def geoOk (bn pn : Int) : Prop := ¬ bn < 16 ∧ ¬ bn > 256 ∧ ¬ pn < 4 ∧ ¬ pn > 32 ∧ ¬ bn > 16 * pn
instance (bn pn : Int) : Decidable (geoOk bn pn) := by unfold geoOk; infer_instance
/-- A chip whose blocks are all erased. -/
def freshChip (bn pn : Nat) (evs : List Ev) (f : Nat → Bool) : Chip := ⟨bn, pn, fun i => ⟨fun _ => rep 288 255, ⟨0, 0, f i⟩⟩, evs, 0, false⟩
def markBad (bn : Nat) : (Nat → Bool) → List Int → Option (Nat → Bool)
  | f, [] => some f
  | f, n :: r => if 0 ≤ n ∧ n < bn ∧ f n.toNat = false then markBad bn (fun i => if i = n.toNat then true else f i) r else none
theorem markBad_no {bn : Nat} {f : Nat → Bool} {n : Int} {r : List Int} (h : ¬ (0 ≤ n ∧ n < bn ∧ f n.toNat = false)) : markBad bn f (n :: r) = none := if_neg h
theorem markBad_yes {bn : Nat} {f : Nat → Bool} {n : Int} {r : List Int} (h : 0 ≤ n ∧ n < bn ∧ f n.toNat = false) : markBad bn f (n :: r) = markBad bn (fun i => if i = n.toNat then true else f i) r := if_pos h
/-- New: an error's number, or a chip. -/
def newChip (bn pn : Int) (bad : List Int) (evs : List Ev) : Except Int Chip :=
  if geoOk bn pn then
    match markBad bn.toNat (fun _ => false) bad with
    | none => .error 22
    | some f => if mayFrom 0 evs = true then .ok (freshChip bn.toNat pn.toNat evs f) else .error 21
  else .error 20
theorem fresh_mark (bn pn : Nat) (evs : List Ev) (f : Nat → Bool) (n : Nat) : (freshChip bn pn evs f).setLook n { ((freshChip bn pn evs f).blk n).look with bad := true } = freshChip bn pn evs (fun i => if i = n then true else f i) := by
  unfold Chip.setLook Chip.setBlk freshChip
  dsimp only
  congr 1
  funext i
  by_cases h : i = n
  · rw [if_pos h, if_pos h]
  · rw [if_neg h, if_neg h]
/-- The blocks that a chip's calls change. -/
def mutOf (c bn pn : Nat) (L : Lay) (b : Nat) : Prop := b = c ∨ (∃ x, x < bn ∧ b = L.k x) ∨ (∃ x, x < bn ∧ b = L.p x) ∨ ∃ x, x < bn ∧ ∃ j, j < pn ∧ b = L.q x j
theorem NewSt.chipR {w W : World} {c bn pn : Nat} {row : Value} {L : Lay} (h : NewSt w W c bn pn bn row L) (hb : 0 < bn ∧ bn ≤ 256 ∧ 0 < pn ∧ pn ≤ 32) :
    ∃ L', ChipR W (mutOf c bn pn L') (fun b => w.heap.size ≤ b ∧ b < W.heap.size ∧ ¬ mutOf c bn pn L' b) c (freshChip bn pn [] fun _ => false) L' ∧ (∀ b, mutOf c bn pn L' b → w.heap.size ≤ b) ∧ L'.ev = .slice none 0 0 := by
  obtain ⟨g, cur, rfl, hg, hgb, hga⟩ := own_row h.own hb.1
  have hge : ∀ b, mutOf c bn pn L b → w.heap.size ≤ b := by
    rintro b (rfl | ⟨x, hx, rfl⟩ | ⟨x, hx, rfl⟩ | ⟨x, hx, j, hj, rfl⟩)
    · exact h.gec
    · exact h.gek x hx
    · exact h.gep x hx
    · exact h.geq x hx j hj
  have hlt : ∀ b, mutOf c bn pn L b → b < W.heap.size := by
    rintro b (rfl | ⟨x, hx, rfl⟩ | ⟨x, hx, rfl⟩ | ⟨x, hx, j, hj, rfl⟩)
    · exact h.chip.lt
    · exact (h.blk x hx).lt
    · exact (h.prow x hx).lt
    · exact (h.byt x hx j hj).lt
  have hng : ¬ mutOf c bn pn L g := by
    rintro (e | ⟨x, hx, e⟩ | ⟨x, hx, e⟩ | ⟨x, hx, j, hj, e⟩)
    · exact hgb.ne h.chip (by decide) e
    · exact hgb.ne (h.blk x hx) (by decide) e
    · exact hgb.ne (h.prow x hx) (by decide) e
    · exact hgb.ne (h.byt x hx j hj) (by decide) e
  refine ⟨{ L with ba := g, barr := cur, ev := .slice none 0 0 }, ?_, hge, rfl⟩
  exact { chip := h.chip, row := hgb, rowAt := hga, blk := h.blk, prow := h.prow, prowAt := h.prowAt, byt := h.byt, len := fun i hi j hj => rep_len 288 255
          kinj := h.kinj, pinj := h.pinj, qinj := h.qinj, evs := EvS.nil _ _ _ _, fc := .inl rfl, fk := fun i hi => .inr (.inl ⟨i, hi, rfl⟩), fp := fun i hi => .inr (.inr (.inl ⟨i, hi, rfl⟩))
          fq := fun i hi j hj => .inr (.inr (.inr ⟨i, hi, j, hj, rfl⟩)), fba := ⟨hg, hgb.lt, hng⟩, disj := fun b hm hr => hr.2.2 hm, ltm := hlt, ltr := fun b hr => hr.2.1, bnd := hb, opsb := ⟨Int.le_refl _, by show (0 : Int) ≤ 1000000; decide⟩ }
/-- Behind new events. -/
theorem ChipR.upd_new {W W' : World} {Fm Fr Fr' : Nat → Prop} {c : Nat} {st : Chip} {L : Lay} (h : ChipR W Fm Fr c st L) (hsub : ∀ b, Fr b → Fr' b) (hdisj : ∀ b, Fm b → ¬ Fr' b) (hlt : ∀ b, Fr' b → b < W'.heap.size) (v : Value) (evs : List Ev)
    (hb : Box W' c 77 (chipA { L with ev := v } { st with evs := evs })) (hg : W.grownBy W' (some c)) (hev : EvS W' Fr' v evs) : ChipR W' Fm Fr' c { st with evs := evs } { L with ev := v } where
  chip := hb
  row := h.row.grown hg (by simpa using (h.row.ne h.chip (by decide)))
  rowAt := h.rowAt
  blk i hi := (h.blk i hi).grown hg (by simpa using ((h.blk i hi).ne h.chip (by decide)))
  prow i hi := (h.prow i hi).grown hg (by simpa using ((h.prow i hi).ne h.chip (by decide)))
  prowAt := h.prowAt
  byt i hi j hj := (h.byt i hi j hj).grown hg (by simpa using ((h.byt i hi j hj).ne h.chip (by decide)))
  len := h.len
  kinj := h.kinj
  pinj := h.pinj
  qinj := h.qinj
  evs := hev
  fc := h.fc
  fk := h.fk
  fp := h.fp
  fq := h.fq
  fba := hsub _ h.fba
  disj := hdisj
  ltm b hb := Nat.lt_of_lt_of_le (h.ltm b hb) hg.size
  ltr := hlt
  bnd := h.bnd
  opsb := h.opsb
/-- Numbers in old memory. -/
def IntS (W : World) (B : Nat) (v : Value) (xs : List Int) : Prop := ∃ a cap, v = .slice a xs.length cap ∧ xs.length ≤ cap ∧ ∀ j x, xs[j]? = some x → ∃ b o, a = some ⟨b, o, none⟩ ∧ b < B ∧ W.cell? ⟨b, o + j, none⟩ = some (.int .i64 x)
theorem IntS.below {W W' : World} {B : Nat} {v : Value} {xs : List Int} (h : IntS W B v xs) (hb : Below B W W') : IntS W' B v xs := by
  obtain ⟨a, cap, h1, h2, h3⟩ := h
  refine ⟨a, cap, h1, h2, fun j x hx => ?_⟩
  obtain ⟨b, o, k1, k2, k3⟩ := h3 j x hx
  exact ⟨b, o, k1, k2, (cell_of_heap (hb.block b k2) _).trans k3⟩
theorem IntS.at {W : World} {B : Nat} {v : Value} {xs : List Int} (h : IntS W B v xs) (hne : xs ≠ []) : ∃ b o cap, v = .slice (some ⟨b, o, none⟩) xs.length cap ∧ xs.length ≤ cap ∧ b < B ∧ ∀ j (hj : j < xs.length), W.cell? ⟨b, o + j, none⟩ = some (.int .i64 xs[j]) := by
  obtain ⟨a, cap, rfl, hc, h3⟩ := h
  match xs, hne with
  | x :: r, _ =>
    obtain ⟨b, o, rfl, hb, _⟩ := h3 0 x rfl
    refine ⟨b, o, cap, rfl, hc, hb, fun j hj => ?_⟩
    obtain ⟨b', o', e, _, h4⟩ := h3 j _ (List.getElem?_eq_getElem hj)
    cases e
    exact h4
/-- A mask of the chip's own, or none. -/
def MaskS (W : World) (B : Nat) (mv : Value) (m : List UInt8) : Prop := RdB W mv m ∧ (m = [] ∨ ∃ g cap, mv = .slice (some ⟨g, 0, none⟩) m.length cap ∧ B ≤ g ∧ OwnB W g cap m)
theorem rdb_nil_any {W W' : World} {v : Value} (h : RdB W v []) : RdB W' v [] := by
  obtain ⟨a, cap, h1, h2, _⟩ := h
  exact ⟨a, cap, h1, h2, fun j x hx => by simp at hx⟩
theorem OwnB.of_heap {W W' : World} {g cap : Nat} {bs : List UInt8} (h : OwnB W g cap bs) (e : W'.heap[g]? = W.heap[g]?) : OwnB W' g cap bs := by
  unfold OwnB at h ⊢
  rw [e]
  exact h
theorem MaskS.heap {W W' : World} {B : Nat} {mv : Value} {m : List UInt8} (h : MaskS W B mv m) (e : ∀ g cap, B ≤ g → OwnB W g cap m → W'.heap[g]? = W.heap[g]?) : MaskS W' B mv m := by
  obtain ⟨h1, rfl | ⟨g, cap, rfl, hg, ho⟩⟩ := h
  · exact ⟨rdb_nil_any h1, .inl rfl⟩
  · have := ho.of_heap (e g cap hg ho)
    exact ⟨this.rd, .inr ⟨g, cap, rfl, hg, this⟩⟩
/-- Events, each with its mask's value. -/
def evCells (ps : List (Ev × Value)) : List Value := ps.flatMap fun p => [.int .i64 p.1.at_, .int .i64 p.1.kind, p.2]
theorem evCells_len (ps : List (Ev × Value)) : (evCells ps).length = ps.length * 3 := by
  induction ps with
  | nil => rfl
  | cons p r ih => unfold evCells at ih ⊢; rw [List.flatMap_cons, List.length_append, ih]; simp; omega
theorem evCells_at : ∀ (ps : List (Ev × Value)) (j : Nat) (p : Ev × Value), ps[j]? = some p → (evCells ps)[j * 3]? = some (.int .i64 p.1.at_) ∧ (evCells ps)[j * 3 + 1]? = some (.int .i64 p.1.kind) ∧ (evCells ps)[j * 3 + 2]? = some p.2
  | [], j, p, h => by simp at h
  | q :: r, 0, p, h => by
    simp at h
    subst h
    exact ⟨rfl, rfl, rfl⟩
  | q :: r, j + 1, p, h => by
    obtain ⟨h1, h2, h3⟩ := evCells_at r j p (by simpa using h)
    have e : evCells (q :: r) = .int .i64 q.1.at_ :: .int .i64 q.1.kind :: q.2 :: evCells r := rfl
    rw [e, show (j + 1) * 3 = j * 3 + 3 by omega]
    exact ⟨h1, h2, h3⟩
theorem evCells_snoc (ps : List (Ev × Value)) (e : Ev) (mv : Value) : evCells (ps ++ [(e, mv)]) = evCells ps ++ [.int .i64 e.at_, .int .i64 e.kind, mv] := by
  unfold evCells; rw [List.flatMap_append]; rfl
/-- A chip whose events are on their way. -/
structure EvNew (w0 W : World) (c : Nat) (st : Chip) (L : Lay) (ps : List (Ev × Value)) (vE : Value) : Prop where
  chip : Box W c 77 (chipA { L with ev := vE } st)
  own : W.ownsRow w0.heap.size 67 3 vE ps.length (evCells ps)
  masks : ∀ p, p ∈ ps → MaskS W w0.heap.size p.2 p.1.mask
  grown : w0.grownBy W (some c)
theorem EvNew.below {w0 W W' : World} {c : Nat} {st : Chip} {L : Lay} {ps : List (Ev × Value)} {vE : Value} (h : EvNew w0 W c st L ps vE) (hb : Below W.heap.size W W') : EvNew w0 W' c st L ps vE where
  chip := h.chip.below hb
  own := own_below h.own hb
  masks p hp := (h.masks p hp).heap (fun g cap _ ho => hb.block g ho.lt)
  grown := ⟨hb.os.trans h.grown.os, hb.tape.trans h.grown.tape, hb.output.trans h.grown.output, Nat.le_trans h.grown.size hb.size, fun b h1 h2 => (hb.block b (Nat.lt_of_lt_of_le h1 h.grown.size)).trans (h.grown.block b h1 h2)⟩
theorem OwnB.tag {W : World} {g cap : Nat} {bs : List UInt8} (h : OwnB W g cap bs) {b : Nat} {t : TypeId} {vs : Array Value} (hb : Box W b t vs) (hne : t ≠ 5) : b ≠ g := by
  obtain ⟨cur, h1, _⟩ := h
  exact hb.ne (show Box W g 5 cur from h1) hne
/-- An event more. -/
theorem EvNew.push {w0 W : World} {c : Nat} {st : Chip} {L : Lay} {ps : List (Ev × Value)} {vE : Value} (h : EvNew w0 W c st L ps vE) (hl : ps.length < 10000000) (s : Nat) (e : Ev) (mv : Value) (hmv : MaskS W w0.heap.size mv e.mask)
    (h0 : W.cell? ⟨s, 0, none⟩ = some (.int .i64 e.at_)) (h1 : W.cell? ⟨s, 1, none⟩ = some (.int .i64 e.kind)) (h2 : W.cell? ⟨s, 2, none⟩ = some mv) (ty : TypeId) :
    ∃ v' w', (Builtin.append_ #[25, 25] ty #[vE, .slice (some ⟨s, 0, none⟩) 1 1]).run Try.prog W = .ok v' w' ∧ Box w' c 77 (chipA { L with ev := vE } st) ∧ (∃ a cap, v' = .slice a (ps.length + 1) cap) ∧ EvNew w0 (w'.setCell ⟨c, 3, none⟩ v') c st L (ps ++ [(e, mv)]) v' := by
  obtain ⟨i0, hi0, hz0, hz1, hz2⟩ := info_parts info67
  obtain ⟨ma, mcap, hms⟩ : ∃ a cap, mv = .slice a e.mask.length cap := by
    obtain ⟨⟨a, cap, hh, _⟩, _⟩ := hmv; exact ⟨a, cap, hh⟩
  obtain ⟨v', w', hr, k2, k3, _, k5⟩ := run_append_own_at (P := Try.prog) W w0.heap.size 25 ty 67 i0 (.agg #[.int .i64 0, .int .i64 0, .slice none 0 0]) 3 40 Try.underlying25 hi0 hz0 hz1 hz2 rfl (by decide) vE ps.length (evCells ps) h.own ⟨s, 0, none⟩ 1 1 [.int .i64 e.at_, .int .i64 e.kind, mv] rfl (fun j u hu => by
    match j, hu with
    | 0, hu =>
      simp at hu; subst hu
      show W.cell? ((⟨s, 0, none⟩ : Addr).add 0) = _
      rw [show (⟨s, 0, none⟩ : Addr).add 0 = ⟨s, 0, none⟩ from by simp [Addr.add]]
      exact h0
    | 1, hu =>
      simp at hu; subst hu
      rw [show (⟨s, 0, none⟩ : Addr).add 1 = ⟨s, 1, none⟩ from by simp [Addr.add]]
      exact h1
    | 2, hu =>
      simp at hu; subst hu
      rw [show (⟨s, 0, none⟩ : Addr).add 2 = ⟨s, 2, none⟩ from by simp [Addr.add]]
      exact h2) (fun u hu => by simp at hu; rcases hu with rfl | rfl | rfl; rfl; rfl; rw [hms]; rfl) (by unfold maxLen; omega) (by omega) h.grown.size
  have hcx := h.chip.grown_own h.own k3 (by decide)
  refine ⟨v', w', hr, hcx, ?_, ?_⟩
  · obtain ⟨_, ⟨hv, _⟩ | ⟨g, cap, cur, hv, _⟩⟩ := k2
    · omega
    · exact ⟨_, _, hv⟩
  have hng : ∀ g, some g = vE.ownBlock → w0.heap.size ≤ g ∧ ∃ cur, Box W g 67 cur := by
    intro g hg
    obtain ⟨_, ⟨rfl, _⟩ | ⟨g', cap, cur, rfl, hge, hh, _⟩⟩ := h.own
    · cases hg
    · have : g = g' := by simpa [Value.ownBlock] using hg
      subst this
      exact ⟨hge, cur, hh⟩
  have keepM : ∀ {p : Ev × Value}, MaskS W w0.heap.size p.2 p.1.mask → MaskS (w'.setCell ⟨c, 3, none⟩ v') w0.heap.size p.2 p.1.mask := fun hp => hp.heap fun g cap _ ho => by
    have e1 : w'.heap[g]? = W.heap[g]? := k3.block g ho.lt (fun e => by obtain ⟨_, cur, hx⟩ := hng g e; exact ho.tag hx (by decide) rfl)
    exact (Below.heap_setCell w' ⟨c, 3, none⟩ v' g (Ne.symm (ho.tag h.chip (by decide)))).trans e1
  refine ⟨hcx.set 3 v', ?_, ?_, ?_⟩
  · rw [List.length_append, evCells_snoc]
    refine k2.kept (grown_set1 w' c 3 v') ?_
    obtain ⟨_, ⟨hv, h0⟩ | ⟨g, cap, cur, hv, _, hh, _⟩⟩ := k2
    · omega
    · right
      intro e
      rw [hv] at e
      have : g = c := by simpa [Value.ownBlock] using e
      subst this
      have hbx : w'.heap[g]? = some (.cells _ 77 (0, 0)) := hcx
      rw [hh] at hbx
      cases hbx
  · intro p hp
    rcases List.mem_append.1 hp with hp | hp
    · exact keepM (h.masks p hp)
    · rw [List.mem_singleton.1 hp]
      exact keepM (p := (e, mv)) hmv
  · refine ⟨k3.os.trans h.grown.os, k3.tape.trans h.grown.tape, k3.output.trans h.grown.output, Nat.le_trans h.grown.size (by simpa [World.setCell] using k3.size), fun b hb hne => ?_⟩
    have hb' : b < W.heap.size := Nat.lt_of_lt_of_le hb h.grown.size
    rw [Below.heap_setCell w' ⟨c, 3, none⟩ v' b (fun e => hne (by rw [e]))]
    rw [k3.block b hb' (fun e => by have := (hng b e).1; omega)]
    exact h.grown.block b hb hne
/-- The events are the chip's. -/
theorem EvNew.done {w0 W : World} {c : Nat} {st : Chip} {L : Lay} {ps : List (Ev × Value)} {vE : Value} {Fm Fr : Nat → Prop} {B : Nat} (hB : B ≤ w0.heap.size) (hC : ChipR w0 Fm Fr c st L) (hFr : ∀ b, Fr b → B ≤ b) (h : EvNew w0 W c st L ps vE) :
    ChipR W Fm (fun b => B ≤ b ∧ b < W.heap.size ∧ ¬ Fm b) c { st with evs := ps.map Prod.fst } { L with ev := vE } := by
  refine hC.upd_new (fun b hb => ⟨hFr b hb, Nat.lt_of_lt_of_le (hC.ltr b hb) h.grown.size, fun hm => hC.disj b hm hb⟩) (fun b hm hr => hr.2.2 hm) (fun b hr => hr.2.1) vE _ h.chip h.grown ?_
  obtain ⟨hlen, hrow⟩ := h.own
  rcases hrow with ⟨rfl, h0⟩ | ⟨g, cap, cur, rfl, hg, hh, hc, hm, hs, ht⟩
  · refine ⟨none, 0, by simp [h0], by simp [h0], fun j e he => ?_⟩
    have : ps = [] := List.length_eq_zero_iff.1 h0
    subst this
    simp at he
  · refine ⟨some ⟨g, 0, none⟩, cap, by simp, by simpa using hc, fun j e he => ?_⟩
    rw [List.getElem?_map] at he
    cases hp : ps[j]? with
    | none => rw [hp] at he; cases he
    | some p =>
      rw [hp] at he
      cases he
      obtain ⟨c0, c1, c2⟩ := evCells_at ps j p hp
      have hjl : j < ps.length := (List.getElem?_eq_some_iff.1 hp).1
      have hcell : ∀ i v, i < ps.length * 3 → (evCells ps)[i]? = some v → W.cell? ⟨g, 0 + i, none⟩ = some v := by
        intro i v hi hv
        rw [← ht, List.getElem?_take_of_lt hi] at hv
        rw [show (⟨g, 0 + i, none⟩ : Addr) = ⟨g, i, none⟩ by simp]
        exact (Box.cell (show Box W g 67 cur from hh) i).trans (by simpa using hv)
      have hgl : g < W.heap.size := (show Box W g 67 cur from hh).lt
      have hgm : ¬ Fm g := fun hf => by have := hC.ltm g hf; omega
      refine ⟨g, 0, p.2, rfl, hgl, ⟨Nat.le_trans hB hg, hgl, hgm⟩, hcell _ _ (by omega) c0, hcell _ _ (by omega) c1, hcell _ _ (by omega) c2, fun W' hW' => ?_⟩
      obtain ⟨m1, m2⟩ := (h.masks p (List.mem_of_getElem? hp)).heap (W' := W') (fun gm cm hgm' ho => hW'.1 gm ⟨Nat.le_trans hB hgm', ho.lt, fun hf => by have := hC.ltm gm hf; omega⟩)
      exact m1
end Go.Proofs.Ytlgjlhgdpiipbaa
