import Derived.Test.YtlgjlhgdpiipbaaMaf
/- A clone under way: its blocks so far; slices.Clone of events. -/
namespace Go.Proofs.Ytlgjlhgdpiipbaa
open Go.RowKit
theorem evS_mono {W : World} {R R' : Nat → Prop} {v : Value} {evs : List Ev} (h : EvS W R v evs) (hR : ∀ b, R b → R' b) : EvS W R' v evs := by
  obtain ⟨a, cap, h1, h2, h3⟩ := h
  refine ⟨a, cap, h1, h2, fun j e he => ?_⟩
  obtain ⟨b, o, mv, k1, k2, k3, k4, k5, k6, k7⟩ := h3 j e he
  exact ⟨b, o, mv, k1, k2, hR b k3, k4, k5, k6, fun W' h => k7 W' ⟨fun x hx => h.1 x (hR x hx), h.2⟩⟩
/-- A block under way: its pages so far. -/
structure CBlk (B : Nat) (W : World) (kb j : Nat) (prv : Value) (qf : Nat → Nat) (bk : Blk) : Prop where
  box : Box W kb 84 #[prv, .int .i64 bk.look.wear, .int .i64 bk.look.next, .bool bk.look.bad]
  own : W.ownsRow B 85 1 prv j (ptrs qf j)
  byt : ∀ x, x < j → Box W (qf x) 110 (cellsB (bk.pages x))
  inj : ∀ x, x < j → ∀ y, y < j → qf x = qf y → x = y
  ge : B ≤ kb ∧ ∀ x, x < j → B ≤ qf x
theorem CBlk.below {B : Nat} {W W' : World} {kb j : Nat} {prv : Value} {qf : Nat → Nat} {bk : Blk} (h : CBlk B W kb j prv qf bk) (hb : Below W.heap.size W W') : CBlk B W' kb j prv qf bk :=
  ⟨h.box.below hb, own_below h.own hb, fun x hx => (h.byt x hx).below hb, h.inj, h.ge⟩
/-- A page more. -/
theorem CBlk.push {B : Nat} {W : World} {kb j : Nat} {prv : Value} {qf : Nat → Nat} {bk : Blk} (h : CBlk B W kb j prv qf bk) (hj : j < 1000) (hB : B ≤ W.heap.size) (b s : Nat) (hb : Box W b 110 (cellsB (bk.pages j))) (hbB : B ≤ b) (hnew : ∀ x, x < j → qf x ≠ b) (hs : W.cell? ⟨s, 0, none⟩ = some (ptr b)) (ty : TypeId) :
    ∃ v' w', (Builtin.append_ #[82, 82] ty #[prv, .slice (some ⟨s, 0, none⟩) 1 1]).run Try.prog W = .ok v' w' ∧ W.grownBy w' prv.ownBlock ∧ Below B W w' ∧ Box w' kb 84 #[prv, .int .i64 bk.look.wear, .int .i64 bk.look.next, .bool bk.look.bad] ∧ (∃ a cap, v' = .slice a (j + 1) cap) ∧
      CBlk B (w'.setCell ⟨kb, 0, none⟩ v') kb (j + 1) v' (fun x => if x = j then b else qf x) bk := by
  have hc : ptrs qf j = ptrs (fun x => if x = j then b else qf x) j := ptrs_congr (fun x hx => by rw [if_neg (by omega)])
  have ho := h.own
  rw [hc] at ho
  obtain ⟨v', w', hr, h2, h3, h4⟩ := own_push Try.underlying82 info85 ho (by omega) hB b s hs (if_pos rfl) ty
  have hbx := h.box.grown_own h.own h3 (by decide)
  have hv' : ∃ a cap, v' = .slice a (j + 1) cap := by
    obtain ⟨_, ⟨hv, h0⟩ | ⟨g, cap, cur, hv, _⟩⟩ := h2
    · omega
    · exact ⟨_, _, hv⟩
  refine ⟨v', w', hr, h3, (Below.refl B W).grown h3 hB h4, hbx, hv', ?_⟩
  have hkb := h.ge.1
  refine ⟨hbx.set 0 v', ?_, fun x hx => ?_, fun x hx y hy => ?_, hkb, fun x hx => ?_⟩
  · refine h2.kept (grown_set1 w' kb 0 v') ?_
    obtain ⟨_, ⟨hv, h0⟩ | ⟨g, cap, cur, hv, _, hh, _⟩⟩ := h2
    · omega
    · right
      intro e
      rw [hv] at e
      have : g = kb := by simpa [Value.ownBlock] using e
      subst this
      have hbx : w'.heap[g]? = some (.cells _ 84 (0, 0)) := hbx
      rw [hh] at hbx
      cases hbx
  · by_cases e : x = j
    · rw [if_pos e, e]
      have hb' := hb.grown_own h.own h3 (by decide)
      exact hb'.far _ _ (hbx.ne hb' (by decide))
    · rw [if_neg e]
      have hb' := (h.byt x (by omega)).grown_own h.own h3 (by decide)
      exact hb'.far _ _ (hbx.ne hb' (by decide))
  · by_cases e : x = j
    · rw [if_pos e]
      by_cases e' : y = j
      · intro _; rw [e, e']
      · rw [if_neg e']
        intro h'; exact absurd h'.symm (hnew y (by omega))
    · rw [if_neg e]
      by_cases e' : y = j
      · rw [if_pos e']
        intro h'; exact absurd h' (hnew x (by omega))
      · rw [if_neg e']
        exact h.inj x (by omega) y (by omega)
  · by_cases e : x = j
    · rw [if_pos e]; exact hbB
    · rw [if_neg e]; exact h.ge.2 x (by omega)
/-- A chip under way: its blocks so far. -/
structure CNew (w W : World) (c bn pn i : Nat) (row : Value) (L : Lay) (ev : Value) (ops : Int) (off : Bool) (bl : Nat → Blk) : Prop where
  chip : Box W c 77 #[.int .i64 bn, .int .i64 pn, row, ev, .int .i64 ops, .bool off]
  own : W.ownsRow w.heap.size 81 1 row i (ptrs L.k i)
  blk : ∀ x, x < i → Box W (L.k x) 84 #[.slice (some ⟨L.p x, 0, none⟩) pn (L.parr x).size, .int .i64 (bl x).look.wear, .int .i64 (bl x).look.next, .bool (bl x).look.bad]
  prow : ∀ x, x < i → Box W (L.p x) 85 (L.parr x)
  prowAt : ∀ x, x < i → ∀ j, j < pn → (L.parr x)[j]? = some (ptr (L.q x j))
  byt : ∀ x, x < i → ∀ j, j < pn → Box W (L.q x j) 110 (cellsB ((bl x).pages j))
  kinj : ∀ x, x < i → ∀ y, y < i → L.k x = L.k y → x = y
  pinj : ∀ x, x < i → ∀ y, y < i → L.p x = L.p y → x = y
  qinj : ∀ x, x < i → ∀ j, j < pn → ∀ y, y < i → ∀ j', j' < pn → L.q x j = L.q y j' → x = y ∧ j = j'
  gec : w.heap.size ≤ c
  gek : ∀ x, x < i → w.heap.size ≤ L.k x
  gep : ∀ x, x < i → w.heap.size ≤ L.p x
  geq : ∀ x, x < i → ∀ j, j < pn → w.heap.size ≤ L.q x j
  bel : Below w.heap.size w W
theorem CNew.below {w W W' : World} {c bn pn i : Nat} {row : Value} {L : Lay} {ev : Value} {ops : Int} {off : Bool} {bl : Nat → Blk} (h : CNew w W c bn pn i row L ev ops off bl) (hb : Below W.heap.size W W') : CNew w W' c bn pn i row L ev ops off bl where
  chip := h.chip.below hb
  own := own_below h.own hb
  blk x hx := (h.blk x hx).below hb
  prow x hx := (h.prow x hx).below hb
  prowAt := h.prowAt
  byt x hx j hj := (h.byt x hx j hj).below hb
  kinj := h.kinj
  pinj := h.pinj
  qinj := h.qinj
  gec := h.gec
  gek := h.gek
  gep := h.gep
  geq := h.geq
  bel := h.bel.trans (hb.mono h.bel.size)
/-- A block more. -/
theorem CNew.push {w W : World} {c bn pn i B : Nat} {row prv : Value} {L : Lay} {kb : Nat} {qf : Nat → Nat} {ev : Value} {ops : Int} {off : Bool} {bl : Nat → Blk} (h : CNew w W c bn pn i row L ev ops off bl) (hb : CBlk B W kb pn prv qf (bl i)) (hi : i < 1000) (hp : 0 < pn)
    (hBlt : w.heap.size ≤ B ∧ c < B ∧ (∀ x, x < i → L.k x < B ∧ L.p x < B ∧ ∀ j, j < pn → L.q x j < B)) (s : Nat) (hs : W.cell? ⟨s, 0, none⟩ = some (ptr kb)) (ty : TypeId) :
    ∃ v' w' L', (Builtin.append_ #[75, 75] ty #[row, .slice (some ⟨s, 0, none⟩) 1 1]).run Try.prog W = .ok v' w' ∧ W.grownBy w' row.ownBlock ∧ Box w' c 77 #[.int .i64 bn, .int .i64 pn, row, ev, .int .i64 ops, .bool off] ∧ (∃ a cap, v' = .slice a (i + 1) cap) ∧
      CNew w (w'.setCell ⟨c, 2, none⟩ v') c bn pn (i + 1) v' L' ev ops off bl := by
  obtain ⟨pb, arr, hprv, hpb, hpbx, hpa⟩ := own_row hb.own hp
  have hc : ptrs L.k i = ptrs (L.push i kb pb arr qf).k i := ptrs_congr (fun x hx => by show _ = if x = i then kb else L.k x; rw [if_neg (by omega)])
  have ho := h.own
  rw [hc] at ho
  obtain ⟨v', w', hr, h2, h3, h4⟩ := own_push Try.underlying75 info81 ho (by omega) h.bel.size kb s hs (by show (if i = i then kb else L.k i) = kb; rw [if_pos rfl]) ty
  have hcx := h.chip.grown_own h.own h3 (by decide)
  have hv' : ∃ a cap, v' = .slice a (i + 1) cap := by
    obtain ⟨_, ⟨hv, h0⟩ | ⟨g, cap, cur, hv, _⟩⟩ := h2
    · omega
    · exact ⟨_, _, hv⟩
  have keep : ∀ {x : Nat} {t : TypeId} {vs : Array Value}, Box W x t vs → t ≠ 81 → t ≠ 77 → Box (w'.setCell ⟨c, 2, none⟩ v') x t vs := fun hx h81 h77 =>
    (hx.grown_own h.own h3 h81).far _ _ (hcx.ne (hx.grown_own h.own h3 h81) (Ne.symm h77))
  refine ⟨v', w', L.push i kb pb arr qf, hr, h3, hcx, hv', ?_⟩
  obtain ⟨hB1, hB2, hB3⟩ := hBlt
  have hkB := hb.ge.1
  have hqB := hb.ge.2
  refine ⟨hcx.set 2 v', ?_, ?_, ?_, ?_, ?_, ?_, ?_, ?_, h.gec, ?_, ?_, ?_, ?_⟩
  · refine h2.kept (grown_set1 w' c 2 v') ?_
    obtain ⟨_, ⟨hv, h0⟩ | ⟨g, cap, cur, hv, _, hh, _⟩⟩ := h2
    · omega
    · right
      intro e
      rw [hv] at e
      have : g = c := by simpa [Value.ownBlock] using e
      subst this
      have hbx : w'.heap[g]? = some (.cells _ 77 (0, 0)) := hcx
      rw [hh] at hbx
      cases hbx
  · intro x hx
    show Box _ (if x = i then kb else L.k x) 84 #[.slice (some ⟨if x = i then pb else L.p x, 0, none⟩) pn (if x = i then arr else L.parr x).size, _, _, _]
    by_cases e : x = i
    · rw [if_pos e, if_pos e, if_pos e, e]
      have := hb.box
      rw [hprv] at this
      exact keep this (by decide) (by decide)
    · rw [if_neg e, if_neg e, if_neg e]
      exact keep (h.blk x (by omega)) (by decide) (by decide)
  · intro x hx
    show Box _ (if x = i then pb else L.p x) 85 (if x = i then arr else L.parr x)
    by_cases e : x = i
    · rw [if_pos e, if_pos e]; exact keep hpbx (by decide) (by decide)
    · rw [if_neg e, if_neg e]; exact keep (h.prow x (by omega)) (by decide) (by decide)
  · intro x hx j hj
    show (if x = i then arr else L.parr x)[j]? = some (ptr ((if x = i then qf else L.q x) j))
    by_cases e : x = i
    · rw [if_pos e, if_pos e]; exact hpa j hj
    · rw [if_neg e, if_neg e]; exact h.prowAt x (by omega) j hj
  · intro x hx j hj
    show Box _ ((if x = i then qf else L.q x) j) 110 _
    by_cases e : x = i
    · rw [if_pos e, e]; exact keep (hb.byt j hj) (by decide) (by decide)
    · rw [if_neg e]; exact keep (h.byt x (by omega) j hj) (by decide) (by decide)
  · intro x hx y hy
    show (if x = i then kb else L.k x) = (if y = i then kb else L.k y) → _
    by_cases e : x = i <;> by_cases e' : y = i
    · intro _; rw [e, e']
    · rw [if_pos e, if_neg e']; intro h'; have := (hB3 y (by omega)).1; omega
    · rw [if_neg e, if_pos e']; intro h'; have := (hB3 x (by omega)).1; omega
    · rw [if_neg e, if_neg e']; exact h.kinj x (by omega) y (by omega)
  · intro x hx y hy
    show (if x = i then pb else L.p x) = (if y = i then pb else L.p y) → _
    by_cases e : x = i <;> by_cases e' : y = i
    · intro _; rw [e, e']
    · rw [if_pos e, if_neg e']; intro h'; have := (hB3 y (by omega)).2.1; omega
    · rw [if_neg e, if_pos e']; intro h'; have := (hB3 x (by omega)).2.1; omega
    · rw [if_neg e, if_neg e']; exact h.pinj x (by omega) y (by omega)
  · intro x hx j hj y hy j' hj'
    show (if x = i then qf else L.q x) j = (if y = i then qf else L.q y) j' → _
    by_cases e : x = i <;> by_cases e' : y = i
    · rw [if_pos e, if_pos e']; intro h'; exact ⟨e.trans e'.symm, hb.inj j hj j' hj' h'⟩
    · rw [if_pos e, if_neg e']; intro h'; have := (hB3 y (by omega)).2.2 j' hj'; have := hqB j hj; omega
    · rw [if_neg e, if_pos e']; intro h'; have := (hB3 x (by omega)).2.2 j hj; have := hqB j' hj'; omega
    · rw [if_neg e, if_neg e']; exact h.qinj x (by omega) j hj y (by omega) j' hj'
  · intro x hx
    show _ ≤ (if x = i then kb else L.k x)
    by_cases e : x = i
    · rw [if_pos e]; omega
    · rw [if_neg e]; exact h.gek x (by omega)
  · intro x hx
    show _ ≤ (if x = i then pb else L.p x)
    by_cases e : x = i
    · rw [if_pos e]; omega
    · rw [if_neg e]; exact h.gep x (by omega)
  · intro x hx j hj
    show _ ≤ (if x = i then qf else L.q x) j
    by_cases e : x = i
    · rw [if_pos e]; have := hqB j hj; omega
    · rw [if_neg e]; exact h.geq x (by omega) j hj
  · exact (h.bel.grown h3 h.bel.size h4).setCell (p := ⟨c, 2, none⟩) h.gec v'
theorem CNew.chipR {w W : World} {c bn pn : Nat} {row : Value} {L : Lay} {ev : Value} {ops : Int} {off : Bool} {bl : Nat → Blk} {evs : List Ev} (h : CNew w W c bn pn bn row L ev ops off bl) (Fr : Nat → Prop) (hFr : ∀ b, Fr b → b < w.heap.size) (hev : EvS W (fun b => Fr b ∨ (w.heap.size ≤ b ∧ b < W.heap.size ∧ ∀ x, mutOf c bn pn L x → b < x)) ev evs) (hlen : ∀ i, i < bn → ∀ j, j < pn → ((bl i).pages j).length = 288) (hob : 0 ≤ ops ∧ ops ≤ 1000000) (hb : 0 < bn ∧ bn ≤ 256 ∧ 0 < pn ∧ pn ≤ 32) :
    ∃ L', ChipR W (mutOf c bn pn L') (fun b => Fr b ∨ (w.heap.size ≤ b ∧ b < W.heap.size ∧ ¬ mutOf c bn pn L' b)) c ⟨bn, pn, bl, evs, ops, off⟩ L' ∧ (∀ b, mutOf c bn pn L' b → w.heap.size ≤ b) := by
  obtain ⟨g, cur, rfl, hg, hgb, hga⟩ := own_row h.own hb.1
  have hge : ∀ b, mutOf c bn pn L b → w.heap.size ≤ b := by
    rintro b (rfl | ⟨x, hx, rfl⟩ | ⟨x, hx, rfl⟩ | ⟨x, hx, j, hj, rfl⟩)
    · exact h.gec
    · exact h.gek x hx
    · exact h.gep x hx
    · exact h.geq x hx j hj
  have hlt : ∀ b, mutOf c bn pn L b → b < W.heap.size := by
    rintro b (rfl | ⟨x, hx, rfl⟩ | ⟨x, hx, rfl⟩ | ⟨x, hx, j, hj, rfl⟩)
    · exact h.chip.lt
    · exact (h.blk x hx).lt
    · exact (h.prow x hx).lt
    · exact (h.byt x hx j hj).lt
  have hng : ¬ mutOf c bn pn L g := by
    rintro (e | ⟨x, hx, e⟩ | ⟨x, hx, e⟩ | ⟨x, hx, j, hj, e⟩)
    · exact hgb.ne h.chip (by decide) e
    · exact hgb.ne (h.blk x hx) (by decide) e
    · exact hgb.ne (h.prow x hx) (by decide) e
    · exact hgb.ne (h.byt x hx j hj) (by decide) e
  refine ⟨{ L with ba := g, barr := cur, ev := ev }, ?_, hge⟩
  exact { chip := h.chip, row := hgb, rowAt := hga, blk := h.blk, prow := h.prow, prowAt := h.prowAt, byt := h.byt, len := hlen
          kinj := h.kinj, pinj := h.pinj, qinj := h.qinj, evs := evS_mono hev (fun b hb => by
            rcases hb with hb | ⟨h1, h2, h3⟩
            · exact .inl hb
            · exact .inr ⟨h1, h2, fun hm => Nat.lt_irrefl _ (h3 b hm)⟩), fc := .inl rfl, fk := fun i hi => .inr (.inl ⟨i, hi, rfl⟩), fp := fun i hi => .inr (.inr (.inl ⟨i, hi, rfl⟩))
          fq := fun i hi j hj => .inr (.inr (.inr ⟨i, hi, j, hj, rfl⟩)), fba := .inr ⟨hg, hgb.lt, hng⟩, disj := fun b hm hr => by
            rcases hr with hr | hr
            · have := hFr b hr
              have := hge b hm
              omega
            · exact hr.2.2 hm
          ltm := hlt, ltr := fun b hr => by
            rcases hr with hr | hr
            · exact Nat.lt_of_lt_of_le (hFr b hr) h.bel.size
            · exact hr.2.1
          bnd := hb, opsb := hob }
/-- Events with their masks' values, as they lie. -/
theorem EvS.pairs {W : World} {R : Nat → Prop} {a : Option Addr} {cap : Nat} {evs : List Ev} (h : EvS W R (.slice a evs.length cap) evs) (hne : evs ≠ []) :
    ∃ (ps : List (Ev × Value)) (b o : Nat), a = some ⟨b, o, none⟩ ∧ ps.map Prod.fst = evs ∧ (∀ p, p ∈ ps → ∀ W', Same R W W' → RdB W' p.2 p.1.mask) ∧ ∀ i u, (evCells ps)[i]? = some u → W.cell? ⟨b, o + i, none⟩ = some u := by
  obtain ⟨a', cap', h1, h2, h3⟩ := h
  cases h1
  obtain ⟨e0, r, rfl⟩ : ∃ e r, evs = e :: r := by cases evs with | nil => exact absurd rfl hne | cons e r => exact ⟨e, r, rfl⟩
  obtain ⟨b, o, _, rfl, _⟩ := h3 0 e0 rfl
  have hall : ∀ j e, (e0 :: r)[j]? = some e → ∃ mv, W.cell? ⟨b, o + j * 3, none⟩ = some (.int .i64 e.at_) ∧ W.cell? ⟨b, o + j * 3 + 1, none⟩ = some (.int .i64 e.kind) ∧ W.cell? ⟨b, o + j * 3 + 2, none⟩ = some mv ∧ ∀ W', Same R W W' → RdB W' mv e.mask := fun j e he => by
    obtain ⟨b', o', mv, k1, _, _, k2, k3, k4, k5⟩ := h3 j e he
    cases k1
    exact ⟨mv, k2, k3, k4, k5⟩
  clear h3 h2
  obtain ⟨evs, hevs⟩ : ∃ l, e0 :: r = l := ⟨_, rfl⟩
  rw [hevs] at hall ⊢
  clear hevs hne
  refine ⟨evs.zipIdx.map (fun p => (p.1, (W.cell? ⟨b, o + p.2 * 3 + 2, none⟩).getD undef)), b, o, rfl, ?_, ?_, ?_⟩
  · rw [List.map_map]
    exact List.zipIdx_map_fst 0 evs
  · intro p hp W' hW'
    obtain ⟨q, hq, rfl⟩ := List.mem_map.1 hp
    have hq' := List.mem_zipIdx_iff_getElem?.1 hq
    obtain ⟨mv, _, _, k3, k4⟩ := hall _ _ hq'
    dsimp only
    rw [k3]
    exact k4 W' hW'
  · intro i u hu
    have hi := (List.getElem?_eq_some_iff.1 hu).1
    rw [evCells_len, List.length_map, List.length_zipIdx] at hi
    have hj : i / 3 < evs.length := by omega
    obtain ⟨mv, k1, k2, k3, _⟩ := hall (i / 3) evs[i / 3] (List.getElem?_eq_getElem hj)
    obtain ⟨c0, c1, c2⟩ := evCells_at (evs.zipIdx.map (fun p => (p.1, (W.cell? ⟨b, o + p.2 * 3 + 2, none⟩).getD undef))) (i / 3) (evs[i / 3], mv) (by
      rw [List.getElem?_map, List.getElem?_zipIdx, List.getElem?_eq_getElem hj]
      simp [k3])
    dsimp only at c0 c1 c2
    have hr : i = i / 3 * 3 ∨ i = i / 3 * 3 + 1 ∨ i = i / 3 * 3 + 2 := by omega
    rcases hr with hr | hr | hr
    · rw [← hr] at c0 k1; rw [c0] at hu; cases hu; exact k1
    · rw [← hr] at c1; rw [c1] at hu; cases hu; rw [show o + i = o + i / 3 * 3 + 1 by omega]; exact k2
    · rw [← hr] at c2; rw [c2] at hu; cases hu; rw [show o + i = o + i / 3 * 3 + 2 by omega]; exact k3
/-- Events behind one another, in a row of the call's own. -/
theorem evS_of_own {W0 W : World} {R : Nat → Prop} {B : Nat} {v : Value} {ps : List (Ev × Value)} (h : W.ownsRow B 67 3 v ps.length (evCells ps)) (hm : ∀ p, p ∈ ps → ∀ W', Same R W0 W' → RdB W' p.2 p.1.mask) (hs : Same R W0 W) :
    EvS W (fun b => R b ∨ (B ≤ b ∧ b < W.heap.size)) v (ps.map Prod.fst) := by
  obtain ⟨hlen, hrow⟩ := h
  rcases hrow with ⟨rfl, h0⟩ | ⟨g, cap, cur, rfl, hg, hh, hc, _, hsz, ht⟩
  · refine ⟨none, 0, by simp [h0], by simp [h0], fun j e he => ?_⟩
    have : ps = [] := List.length_eq_zero_iff.1 h0
    subst this
    simp at he
  · refine ⟨some ⟨g, 0, none⟩, cap, by simp, by simpa using hc, fun j e he => ?_⟩
    rw [List.getElem?_map] at he
    cases hp : ps[j]? with
    | none => rw [hp] at he; cases he
    | some p =>
      rw [hp] at he
      cases he
      obtain ⟨c0, c1, c2⟩ := evCells_at ps j p hp
      have hjl : j < ps.length := (List.getElem?_eq_some_iff.1 hp).1
      have hcell : ∀ i v, i < ps.length * 3 → (evCells ps)[i]? = some v → W.cell? ⟨g, 0 + i, none⟩ = some v := by
        intro i v hi hv
        rw [← ht, List.getElem?_take_of_lt hi] at hv
        rw [show (⟨g, 0 + i, none⟩ : Addr) = ⟨g, i, none⟩ by simp]
        exact (Box.cell (show Box W g 67 cur from hh) i).trans (by simpa using hv)
      have hgl : g < W.heap.size := (show Box W g 67 cur from hh).lt
      exact ⟨g, 0, p.2, rfl, hgl, .inr ⟨hg, hgl⟩, hcell _ _ (by omega) c0, hcell _ _ (by omega) c1, hcell _ _ (by omega) c2, fun W' hW' => hm p (List.mem_of_getElem? hp) W' (hs.trans ⟨fun b hb => hW'.1 b (.inl hb), hW'.2⟩)⟩
def EvRes (Fr : Nat → Prop) (evs : List Ev) (w : World) (e : Ending) (w' : World) : Prop :=
  ∃ v, e = .returned v ∧ EvS w' (fun b => Fr b ∨ (w.heap.size ≤ b ∧ b < w'.heap.size)) v evs ∧ Below w.heap.size w w'
set_option maxRecDepth 100000 in
set_option maxHeartbeats 4000000 in
theorem evclone_any {Fr : Nat → Prop} (evs : List Ev) (v : Value) (w : World) (h : EvS w Fr v evs) (hFr : ∀ b, Fr b → b < w.heap.size) (hl : evs.length ≤ 1048576) : Calls Try.prog 42 #[v] w (EvRes Fr evs w) := by
  obtain ⟨i0, hi0, hz0, hz1, hz2⟩ := info_parts info67
  obtain ⟨a, cap, rfl⟩ := h.len
  have heq := fun W => Lib.run_eql_slice_nil (P := Try.prog) W 25 67 a evs.length cap 0 0 Try.underlying25
  by_cases hne : evs = []
  · subst hne
    simp only [List.length_nil] at heq ⊢
    rcases a with _ | a
    · clear h
      go_enter Try.func42, Try.ntmps42
      go_wp2_with fail
      go_ret
      exact ⟨_, rfl, EvS.nil _ _ _ _, Below.refl _ _⟩
    · have hB1 := Lib.hid ((Below.refl _ w).alloc (Nat.le_refl _) (.cells #[] 67))
      have happ := fun ty => append_nothing (P := Try.prog) (w.alloc (.cells #[] 67)) 25 ty 67 i0 Try.underlying25 hi0 (.slice (some ⟨w.heap.size, 0, none⟩) 0 0) _ (some a) 0 cap rfl
      clear h
      go_enter Try.func42, Try.ntmps42
      go_wp2_with fail
      go_ret
      exact ⟨_, rfl, EvS.nil _ _ _ _, hB1.out⟩
  · obtain ⟨ps, b, o, rfl, hmap, hmr, hcell⟩ := h.pairs hne
    have hpl : ps.length = evs.length := by rw [← hmap, List.length_map]
    have hB1 := (Below.refl _ w).alloc (Nat.le_refl _) (.cells #[] 67)
    have ho : (w.alloc (.cells #[] 67)).ownsRow w.heap.size 67 3 (.slice (some ⟨w.heap.size, 0, none⟩) 0 0) 0 [] := ⟨rfl, .inr ⟨w.heap.size, 0, #[], rfl, Nat.le_refl _, heap_alloc_new w _, Nat.le_refl _, by unfold maxLen; omega, rfl, rfl⟩⟩
    obtain ⟨v', w2, hrun, h2, h3, _⟩ := run_append_own_at (P := Try.prog) (w.alloc (.cells #[] 67)) w.heap.size 25 25 67 i0 (.agg #[.int .i64 0, .int .i64 0, .slice none 0 0]) 3 40 Try.underlying25 hi0 hz0 hz1 hz2 rfl (by decide) _ 0 [] ho ⟨b, o, none⟩ evs.length cap (evCells ps) (by rw [evCells_len, hpl])
      (fun j u hu => by
        have he : (⟨b, o, none⟩ : Addr).add j = ⟨b, o + j, none⟩ := by unfold Addr.add; split <;> simp_all
        have hc := hcell j u hu
        rw [he]
        refine Eq.trans ?_ hc
        have hb : b < w.heap.size := by
          obtain ⟨e0, r, rfl⟩ : ∃ e r, evs = e :: r := by cases evs with | nil => exact absurd rfl hne | cons e r => exact ⟨e, r, rfl⟩
          obtain ⟨_, _, h1, _, h4⟩ := h
          cases h1
          obtain ⟨_, _, _, k1, k2, _⟩ := h4 0 e0 rfl
          cases k1
          exact k2
        exact cell_of_heap (Below.heap_alloc w _ b hb) _)
      (fun u hu => by
        unfold evCells at hu
        obtain ⟨p, hp, hu⟩ := List.mem_flatMap.1 hu
        simp at hu
        rcases hu with rfl | rfl | rfl
        · rfl
        · rfl
        · obtain ⟨ma, mc, hme⟩ := (hmr p hp w (Same.refl _ _)).len
          rw [hme]; rfl) (by unfold maxLen; omega) (by omega) (by rw [World.size_alloc]; omega)
    rw [Nat.zero_add, List.nil_append] at h2
    rw [← hpl] at h2
    have hB2 : Below w.heap.size w w2 := hB1.grown h3 (by rw [World.size_alloc]; omega) (fun k e => by cases e; exact Nat.le_refl _)
    have hfin := Lib.hid (show EvRes Fr evs w (.returned v') w2 from ⟨_, rfl, by rw [← hmap]; exact evS_of_own h2 hmr ⟨fun b hb => hB2.block b (hFr b hb), hB2.size⟩, hB2⟩)
    replace hrun := Lib.hid hrun
    clear h hne hmr hcell hB1 ho h2 h3 hB2 hmap
    go_enter Try.func42, Try.ntmps42
    go_wp2_with (at_builtin; refine wpList_append_run rfl _ _ 25 rfl _ _ rfl rfl _ _ hrun.out ?_)
    go_ret
    exact hfin.out
end Go.Proofs.Ytlgjlhgdpiipbaa
