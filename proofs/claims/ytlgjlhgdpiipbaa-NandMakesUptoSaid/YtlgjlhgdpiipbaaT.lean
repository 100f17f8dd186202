/- A new chip: plain; in memory; its events. -/
import Derived.Test.YtlgjlhgdpiipbaaR
namespace Go.Proofs.Ytlgjlhgdpiipbaa
open Go.RowKit
def geoOk (bn pn : Int) : Prop := ¬ bn < 16 ∧ ¬ bn > 256 ∧ ¬ pn < 4 ∧ ¬ pn > 32 ∧ ¬ bn > 16 * pn
instance (bn pn : Int) : Decidable (geoOk bn pn) := by unfold geoOk; infer_instance
/-- A chip whose blocks are all erased. -/
def freshChip (bn pn : Nat) (evs : List Ev) (f : Nat → Bool) : Chip := ⟨bn, pn, fun i => ⟨fun _ => rep 288 255, ⟨0, 0, f i⟩⟩, evs, 0, false⟩
def markBad (bn : Nat) : (Nat → Bool) → List Int → Option (Nat → Bool)
  | f, [] => some f
  | f, n :: r => if 0 ≤ n ∧ n < bn ∧ f n.toNat = false then markBad bn (fun i => if i = n.toNat then true else f i) r else none
theorem markBad_no {bn : Nat} {f : Nat → Bool} {n : Int} {r : List Int} (h : ¬ (0 ≤ n ∧ n < bn ∧ f n.toNat = false)) : markBad bn f (n :: r) = none := if_neg h
theorem markBad_yes {bn : Nat} {f : Nat → Bool} {n : Int} {r : List Int} (h : 0 ≤ n ∧ n < bn ∧ f n.toNat = false) : markBad bn f (n :: r) = markBad bn (fun i => if i = n.toNat then true else f i) r := if_pos h
/-- New: an error's number, or a chip. -/
def newChip (bn pn : Int) (bad : List Int) (evs : List Ev) : Except Int Chip :=
  if geoOk bn pn then
    match markBad bn.toNat (fun _ => false) bad with
    | none => .error 22
    | some f => if mayFrom 0 evs = true then .ok (freshChip bn.toNat pn.toNat evs f) else .error 21
  else .error 20
theorem fresh_mark (bn pn : Nat) (evs : List Ev) (f : Nat → Bool) (n : Nat) : (freshChip bn pn evs f).setLook n { ((freshChip bn pn evs f).blk n).look with bad := true } = freshChip bn pn evs (fun i => if i = n then true else f i) := by
  unfold Chip.setLook Chip.setBlk freshChip
  dsimp only
  congr 1
  funext i
  by_cases h : i = n
  · rw [if_pos h, if_pos h]
  · rw [if_neg h, if_neg h]
/-- The blocks that a chip's calls change. -/
def mutOf (c bn pn : Nat) (L : Lay) (b : Nat) : Prop := b = c ∨ (∃ x, x < bn ∧ b = L.k x) ∨ (∃ x, x < bn ∧ b = L.p x) ∨ ∃ x, x < bn ∧ ∃ j, j < pn ∧ b = L.q x j
theorem NewSt.chipR {w W : World} {c bn pn : Nat} {row : Value} {L : Lay} (h : NewSt w W c bn pn bn row L) (hb : 0 < bn ∧ bn ≤ 256 ∧ 0 < pn ∧ pn ≤ 32) :
    ∃ L', ChipR W (mutOf c bn pn L') (fun b => w.heap.size ≤ b ∧ b < W.heap.size ∧ ¬ mutOf c bn pn L' b) c (freshChip bn pn [] fun _ => false) L' ∧ (∀ b, mutOf c bn pn L' b → w.heap.size ≤ b) ∧ L'.ev = .slice none 0 0 := by
  obtain ⟨g, cur, rfl, hg, hgb, hga⟩ := own_row h.own hb.1
  have hge : ∀ b, mutOf c bn pn L b → w.heap.size ≤ b := by
    rintro b (rfl | ⟨x, hx, rfl⟩ | ⟨x, hx, rfl⟩ | ⟨x, hx, j, hj, rfl⟩)
    · exact h.gec
    · exact h.gek x hx
    · exact h.gep x hx
    · exact h.geq x hx j hj
  have hlt : ∀ b, mutOf c bn pn L b → b < W.heap.size := by
    rintro b (rfl | ⟨x, hx, rfl⟩ | ⟨x, hx, rfl⟩ | ⟨x, hx, j, hj, rfl⟩)
    · exact h.chip.lt
    · exact (h.blk x hx).lt
    · exact (h.prow x hx).lt
    · exact (h.byt x hx j hj).lt
  have hng : ¬ mutOf c bn pn L g := by
    rintro (e | ⟨x, hx, e⟩ | ⟨x, hx, e⟩ | ⟨x, hx, j, hj, e⟩)
    · exact hgb.ne h.chip (by decide) e
    · exact hgb.ne (h.blk x hx) (by decide) e
    · exact hgb.ne (h.prow x hx) (by decide) e
    · exact hgb.ne (h.byt x hx j hj) (by decide) e
  refine ⟨{ L with ba := g, barr := cur, ev := .slice none 0 0 }, ?_, hge, rfl⟩
  exact { chip := h.chip, row := hgb, rowAt := hga, blk := h.blk, prow := h.prow, prowAt := h.prowAt, byt := h.byt, len := fun i hi j hj => rep_len 288 255
          kinj := h.kinj, pinj := h.pinj, qinj := h.qinj, evs := EvS.nil _ _ _ _, fc := .inl rfl, fk := fun i hi => .inr (.inl ⟨i, hi, rfl⟩), fp := fun i hi => .inr (.inr (.inl ⟨i, hi, rfl⟩))
          fq := fun i hi j hj => .inr (.inr (.inr ⟨i, hi, j, hj, rfl⟩)), fba := ⟨hg, hgb.lt, hng⟩, disj := fun b hm hr => hr.2.2 hm, ltm := hlt, ltr := fun b hr => hr.2.1, bnd := hb, opsb := ⟨Int.le_refl _, by show (0 : Int) ≤ 1000000; decide⟩ }
/-- Behind new events. -/
theorem ChipR.upd_new {W W' : World} {Fm Fr Fr' : Nat → Prop} {c : Nat} {st : Chip} {L : Lay} (h : ChipR W Fm Fr c st L) (hsub : ∀ b, Fr b → Fr' b) (hdisj : ∀ b, Fm b → ¬ Fr' b) (hlt : ∀ b, Fr' b → b < W'.heap.size) (v : Value) (evs : List Ev)
    (hb : Box W' c 77 (chipA { L with ev := v } { st with evs := evs })) (hg : W.grownBy W' (some c)) (hev : EvS W' Fr' v evs) : ChipR W' Fm Fr' c { st with evs := evs } { L with ev := v } where
  chip := hb
  row := h.row.grown hg (by simpa using (h.row.ne h.chip (by decide)))
  rowAt := h.rowAt
  blk i hi := (h.blk i hi).grown hg (by simpa using ((h.blk i hi).ne h.chip (by decide)))
  prow i hi := (h.prow i hi).grown hg (by simpa using ((h.prow i hi).ne h.chip (by decide)))
  prowAt := h.prowAt
  byt i hi j hj := (h.byt i hi j hj).grown hg (by simpa using ((h.byt i hi j hj).ne h.chip (by decide)))
  len := h.len
  kinj := h.kinj
  pinj := h.pinj
  qinj := h.qinj
  evs := hev
  fc := h.fc
  fk := h.fk
  fp := h.fp
  fq := h.fq
  fba := hsub _ h.fba
  disj := hdisj
  ltm b hb := Nat.lt_of_lt_of_le (h.ltm b hb) hg.size
  ltr := hlt
  bnd := h.bnd
  opsb := h.opsb
/-- Numbers in old memory. -/
def IntS (W : World) (B : Nat) (v : Value) (xs : List Int) : Prop := ∃ a cap, v = .slice a xs.length cap ∧ xs.length ≤ cap ∧ ∀ j x, xs[j]? = some x → ∃ b o, a = some ⟨b, o, none⟩ ∧ b < B ∧ W.cell? ⟨b, o + j, none⟩ = some (.int .i64 x)
theorem IntS.below {W W' : World} {B : Nat} {v : Value} {xs : List Int} (h : IntS W B v xs) (hb : Below B W W') : IntS W' B v xs := by
  obtain ⟨a, cap, h1, h2, h3⟩ := h
  refine ⟨a, cap, h1, h2, fun j x hx => ?_⟩
  obtain ⟨b, o, k1, k2, k3⟩ := h3 j x hx
  exact ⟨b, o, k1, k2, (cell_of_heap (hb.block b k2) _).trans k3⟩
theorem IntS.at {W : World} {B : Nat} {v : Value} {xs : List Int} (h : IntS W B v xs) (hne : xs ≠ []) : ∃ b o cap, v = .slice (some ⟨b, o, none⟩) xs.length cap ∧ xs.length ≤ cap ∧ b < B ∧ ∀ j (hj : j < xs.length), W.cell? ⟨b, o + j, none⟩ = some (.int .i64 xs[j]) := by
  obtain ⟨a, cap, rfl, hc, h3⟩ := h
  match xs, hne with
  | x :: r, _ =>
    obtain ⟨b, o, rfl, hb, _⟩ := h3 0 x rfl
    refine ⟨b, o, cap, rfl, hc, hb, fun j hj => ?_⟩
    obtain ⟨b', o', e, _, h4⟩ := h3 j _ (List.getElem?_eq_getElem hj)
    cases e
    exact h4
/-- A mask of the chip's own, or none. -/
def MaskS (W : World) (B : Nat) (mv : Value) (m : List UInt8) : Prop := RdB W mv m ∧ (m = [] ∨ ∃ g cap, mv = .slice (some ⟨g, 0, none⟩) m.length cap ∧ B ≤ g ∧ OwnB W g cap m)
theorem rdb_nil_any {W W' : World} {v : Value} (h : RdB W v []) : RdB W' v [] := by
  obtain ⟨a, cap, h1, h2, _⟩ := h
  exact ⟨a, cap, h1, h2, fun j x hx => by simp at hx⟩
theorem OwnB.of_heap {W W' : World} {g cap : Nat} {bs : List UInt8} (h : OwnB W g cap bs) (e : W'.heap[g]? = W.heap[g]?) : OwnB W' g cap bs := by
  unfold OwnB at h ⊢
  rw [e]
  exact h
theorem MaskS.heap {W W' : World} {B : Nat} {mv : Value} {m : List UInt8} (h : MaskS W B mv m) (e : ∀ g cap, B ≤ g → OwnB W g cap m → W'.heap[g]? = W.heap[g]?) : MaskS W' B mv m := by
  obtain ⟨h1, rfl | ⟨g, cap, rfl, hg, ho⟩⟩ := h
  · exact ⟨rdb_nil_any h1, .inl rfl⟩
  · have := ho.of_heap (e g cap hg ho)
    exact ⟨this.rd, .inr ⟨g, cap, rfl, hg, this⟩⟩
/-- Events, each with its mask's value. -/
def evCells (ps : List (Ev × Value)) : List Value := ps.flatMap fun p => [.int .i64 p.1.at_, .int .i64 p.1.kind, p.2]
theorem evCells_len (ps : List (Ev × Value)) : (evCells ps).length = ps.length * 3 := by
  induction ps with
  | nil => rfl
  | cons p r ih => unfold evCells at ih ⊢; rw [List.flatMap_cons, List.length_append, ih]; simp; omega
theorem evCells_at : ∀ (ps : List (Ev × Value)) (j : Nat) (p : Ev × Value), ps[j]? = some p → (evCells ps)[j * 3]? = some (.int .i64 p.1.at_) ∧ (evCells ps)[j * 3 + 1]? = some (.int .i64 p.1.kind) ∧ (evCells ps)[j * 3 + 2]? = some p.2
  | [], j, p, h => by simp at h
  | q :: r, 0, p, h => by
    simp at h
    subst h
    exact ⟨rfl, rfl, rfl⟩
  | q :: r, j + 1, p, h => by
    obtain ⟨h1, h2, h3⟩ := evCells_at r j p (by simpa using h)
    have e : evCells (q :: r) = .int .i64 q.1.at_ :: .int .i64 q.1.kind :: q.2 :: evCells r := rfl
    rw [e, show (j + 1) * 3 = j * 3 + 3 by omega]
    exact ⟨h1, h2, h3⟩
theorem evCells_snoc (ps : List (Ev × Value)) (e : Ev) (mv : Value) : evCells (ps ++ [(e, mv)]) = evCells ps ++ [.int .i64 e.at_, .int .i64 e.kind, mv] := by
  unfold evCells; rw [List.flatMap_append]; rfl
/-- A chip whose events are on their way. -/
structure EvNew (w0 W : World) (c : Nat) (st : Chip) (L : Lay) (ps : List (Ev × Value)) (vE : Value) : Prop where
  chip : Box W c 77 (chipA { L with ev := vE } st)
  own : W.ownsRow w0.heap.size 67 3 vE ps.length (evCells ps)
  masks : ∀ p, p ∈ ps → MaskS W w0.heap.size p.2 p.1.mask
  grown : w0.grownBy W (some c)
theorem EvNew.below {w0 W W' : World} {c : Nat} {st : Chip} {L : Lay} {ps : List (Ev × Value)} {vE : Value} (h : EvNew w0 W c st L ps vE) (hb : Below W.heap.size W W') : EvNew w0 W' c st L ps vE where
  chip := h.chip.below hb
  own := own_below h.own hb
  masks p hp := (h.masks p hp).heap (fun g cap _ ho => hb.block g ho.lt)
  grown := ⟨hb.os.trans h.grown.os, hb.tape.trans h.grown.tape, hb.output.trans h.grown.output, Nat.le_trans h.grown.size hb.size, fun b h1 h2 => (hb.block b (Nat.lt_of_lt_of_le h1 h.grown.size)).trans (h.grown.block b h1 h2)⟩
theorem OwnB.tag {W : World} {g cap : Nat} {bs : List UInt8} (h : OwnB W g cap bs) {b : Nat} {t : TypeId} {vs : Array Value} (hb : Box W b t vs) (hne : t ≠ 5) : b ≠ g := by
  obtain ⟨cur, h1, _⟩ := h
  exact hb.ne (show Box W g 5 cur from h1) hne
/-- An event more. -/
theorem EvNew.push {w0 W : World} {c : Nat} {st : Chip} {L : Lay} {ps : List (Ev × Value)} {vE : Value} (h : EvNew w0 W c st L ps vE) (hl : ps.length < 10000000) (s : Nat) (e : Ev) (mv : Value) (hmv : MaskS W w0.heap.size mv e.mask)
    (h0 : W.cell? ⟨s, 0, none⟩ = some (.int .i64 e.at_)) (h1 : W.cell? ⟨s, 1, none⟩ = some (.int .i64 e.kind)) (h2 : W.cell? ⟨s, 2, none⟩ = some mv) (ty : TypeId) :
    ∃ v' w', (Builtin.append_ #[25, 25] ty #[vE, .slice (some ⟨s, 0, none⟩) 1 1]).run Try.prog W = .ok v' w' ∧ Box w' c 77 (chipA { L with ev := vE } st) ∧ (∃ a cap, v' = .slice a (ps.length + 1) cap) ∧ EvNew w0 (w'.setCell ⟨c, 3, none⟩ v') c st L (ps ++ [(e, mv)]) v' := by
  obtain ⟨i0, hi0, hz0, hz1, hz2⟩ := info_parts info67
  obtain ⟨ma, mcap, hms⟩ : ∃ a cap, mv = .slice a e.mask.length cap := by
    obtain ⟨⟨a, cap, hh, _⟩, _⟩ := hmv; exact ⟨a, cap, hh⟩
  obtain ⟨v', w', hr, k2, k3, _, k5⟩ := run_append_own_at (P := Try.prog) W w0.heap.size 25 ty 67 i0 (.agg #[.int .i64 0, .int .i64 0, .slice none 0 0]) 3 40 Try.underlying25 hi0 hz0 hz1 hz2 rfl (by decide) vE ps.length (evCells ps) h.own ⟨s, 0, none⟩ 1 1 [.int .i64 e.at_, .int .i64 e.kind, mv] rfl (fun j u hu => by
    match j, hu with
    | 0, hu =>
      simp at hu; subst hu
      show W.cell? ((⟨s, 0, none⟩ : Addr).add 0) = _
      rw [show (⟨s, 0, none⟩ : Addr).add 0 = ⟨s, 0, none⟩ from by simp [Addr.add]]
      exact h0
    | 1, hu =>
      simp at hu; subst hu
      rw [show (⟨s, 0, none⟩ : Addr).add 1 = ⟨s, 1, none⟩ from by simp [Addr.add]]
      exact h1
    | 2, hu =>
      simp at hu; subst hu
      rw [show (⟨s, 0, none⟩ : Addr).add 2 = ⟨s, 2, none⟩ from by simp [Addr.add]]
      exact h2) (fun u hu => by simp at hu; rcases hu with rfl | rfl | rfl; rfl; rfl; rw [hms]; rfl) (by unfold maxLen; omega) (by omega) h.grown.size
  have hcx := h.chip.grown_own h.own k3 (by decide)
  refine ⟨v', w', hr, hcx, ?_, ?_⟩
  · obtain ⟨_, ⟨hv, _⟩ | ⟨g, cap, cur, hv, _⟩⟩ := k2
    · omega
    · exact ⟨_, _, hv⟩
  have hng : ∀ g, some g = vE.ownBlock → w0.heap.size ≤ g ∧ ∃ cur, Box W g 67 cur := by
    intro g hg
    obtain ⟨_, ⟨rfl, _⟩ | ⟨g', cap, cur, rfl, hge, hh, _⟩⟩ := h.own
    · cases hg
    · have : g = g' := by simpa [Value.ownBlock] using hg
      subst this
      exact ⟨hge, cur, hh⟩
  have keepM : ∀ {p : Ev × Value}, MaskS W w0.heap.size p.2 p.1.mask → MaskS (w'.setCell ⟨c, 3, none⟩ v') w0.heap.size p.2 p.1.mask := fun hp => hp.heap fun g cap _ ho => by
    have e1 : w'.heap[g]? = W.heap[g]? := k3.block g ho.lt (fun e => by obtain ⟨_, cur, hx⟩ := hng g e; exact ho.tag hx (by decide) rfl)
    exact (Below.heap_setCell w' ⟨c, 3, none⟩ v' g (Ne.symm (ho.tag h.chip (by decide)))).trans e1
  refine ⟨hcx.set 3 v', ?_, ?_, ?_⟩
  · rw [List.length_append, evCells_snoc]
    refine k2.kept (grown_set1 w' c 3 v') ?_
    obtain ⟨_, ⟨hv, h0⟩ | ⟨g, cap, cur, hv, _, hh, _⟩⟩ := k2
    · omega
    · right
      intro e
      rw [hv] at e
      have : g = c := by simpa [Value.ownBlock] using e
      subst this
      have hbx : w'.heap[g]? = some (.cells _ 77 (0, 0)) := hcx
      rw [hh] at hbx
      cases hbx
  · intro p hp
    rcases List.mem_append.1 hp with hp | hp
    · exact keepM (h.masks p hp)
    · rw [List.mem_singleton.1 hp]
      exact keepM (p := (e, mv)) hmv
  · refine ⟨k3.os.trans h.grown.os, k3.tape.trans h.grown.tape, k3.output.trans h.grown.output, Nat.le_trans h.grown.size (by simpa [World.setCell] using k3.size), fun b hb hne => ?_⟩
    have hb' : b < W.heap.size := Nat.lt_of_lt_of_le hb h.grown.size
    rw [Below.heap_setCell w' ⟨c, 3, none⟩ v' b (fun e => hne (by rw [e]))]
    rw [k3.block b hb' (fun e => by have := (hng b e).1; omega)]
    exact h.grown.block b hb hne
/-- The events are the chip's. -/
theorem EvNew.done {w0 W : World} {c : Nat} {st : Chip} {L : Lay} {ps : List (Ev × Value)} {vE : Value} {Fm Fr : Nat → Prop} {B : Nat} (hB : B ≤ w0.heap.size) (hC : ChipR w0 Fm Fr c st L) (hFr : ∀ b, Fr b → B ≤ b) (h : EvNew w0 W c st L ps vE) :
    ChipR W Fm (fun b => B ≤ b ∧ b < W.heap.size ∧ ¬ Fm b) c { st with evs := ps.map Prod.fst } { L with ev := vE } := by
  refine hC.upd_new (fun b hb => ⟨hFr b hb, Nat.lt_of_lt_of_le (hC.ltr b hb) h.grown.size, fun hm => hC.disj b hm hb⟩) (fun b hm hr => hr.2.2 hm) (fun b hr => hr.2.1) vE _ h.chip h.grown ?_
  obtain ⟨hlen, hrow⟩ := h.own
  rcases hrow with ⟨rfl, h0⟩ | ⟨g, cap, cur, rfl, hg, hh, hc, hm, hs, ht⟩
  · refine ⟨none, 0, by simp [h0], by simp [h0], fun j e he => ?_⟩
    have : ps = [] := List.length_eq_zero_iff.1 h0
    subst this
    simp at he
  · refine ⟨some ⟨g, 0, none⟩, cap, by simp, by simpa using hc, fun j e he => ?_⟩
    rw [List.getElem?_map] at he
    cases hp : ps[j]? with
    | none => rw [hp] at he; cases he
    | some p =>
      rw [hp] at he
      cases he
      obtain ⟨c0, c1, c2⟩ := evCells_at ps j p hp
      have hjl : j < ps.length := (List.getElem?_eq_some_iff.1 hp).1
      have hcell : ∀ i v, i < ps.length * 3 → (evCells ps)[i]? = some v → W.cell? ⟨g, 0 + i, none⟩ = some v := by
        intro i v hi hv
        rw [← ht, List.getElem?_take_of_lt hi] at hv
        rw [show (⟨g, 0 + i, none⟩ : Addr) = ⟨g, i, none⟩ by simp]
        exact (Box.cell (show Box W g 67 cur from hh) i).trans (by simpa using hv)
      have hgl : g < W.heap.size := (show Box W g 67 cur from hh).lt
      have hgm : ¬ Fm g := fun hf => by have := hC.ltm g hf; omega
      refine ⟨g, 0, p.2, rfl, hgl, ⟨Nat.le_trans hB hg, hgl, hgm⟩, hcell _ _ (by omega) c0, hcell _ _ (by omega) c1, hcell _ _ (by omega) c2, fun W' hW' => ?_⟩
      obtain ⟨m1, m2⟩ := (h.masks p (List.mem_of_getElem? hp)).heap (W' := W') (fun gm cm hgm' ho => hW'.1 gm ⟨Nat.le_trans hB hgm', ho.lt, fun hf => by have := hC.ltm gm hf; omega⟩)
      exact m1
end Go.Proofs.Ytlgjlhgdpiipbaa
