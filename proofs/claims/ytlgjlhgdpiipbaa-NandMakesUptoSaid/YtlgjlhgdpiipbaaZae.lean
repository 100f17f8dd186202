/- The reference's chip behind New's parts. -/
import Derived.Test.YtlgjlhgdpiipbaaZac
namespace Go.Proofs.Ytlgjlhgdpiipbaa
open Go.RowKit
/-- All blocks are there: the chip, erased. -/
theorem RNew.done {w W : World} {c bn pn : Nat} {ra : Option Addr} {rc : Nat} {p pc : Nat → Nat} (h : RNew w W c bn pn bn (.slice ra bn rc) p pc) (hb : 0 < bn ∧ bn ≤ 256 ∧ 0 < pn ∧ pn ≤ 32) :
    ∃ (L : RLay) (Fm : Nat → Prop), L.ev = .slice none 0 0 ∧ ra = some ⟨L.ba, 0, none⟩ ∧ rc = L.bcap ∧ RefR W Fm (fun _ => False) c (freshChip bn pn [] (fun _ => false)) L ∧ ∀ b, Fm b → w.heap.size ≤ b := by
  obtain ⟨hlen, ⟨_, h0⟩ | ⟨g, cap, cur, hv, hg, hh, hc, hm, hs, ht⟩⟩ := id h.own
  · omega
  cases hv
  have hgb : Box W g 94 cur := hh
  have hpg : ∀ y, y < bn → ∃ cur, Box W (p y) 48 cur ∧ w.heap.size ≤ p y ∧ pn ≤ pc y ∧ cur.toList.take (pn * 288) = blankL pn := fun y hy => by
    obtain ⟨_, ⟨_, h0⟩ | ⟨g1, cap1, cur1, hv1, hg1, hh1, hc1, hm1, hs1, ht1⟩⟩ := h.pages y hy
    · omega
    · cases hv1
      exact ⟨cur1, hh1, hg1, hc1, ht1⟩
  have hch : ∃ q : Nat → Array Value, ∀ y, y < bn → Box W (p y) 48 (q y) ∧ w.heap.size ≤ p y ∧ pn ≤ pc y ∧ (q y).toList.take (pn * 288) = blankL pn :=
    ⟨fun y => if hy : y < bn then (hpg y hy).choose else #[], fun y hy => by simp only [hy, dite_true]; exact (hpg y hy).choose_spec⟩
  obtain ⟨q, hq⟩ := hch
  refine ⟨⟨g, rc, cur, .slice none 0 0, p, pc, q⟩, fun b => b = c ∨ b = g ∨ ∃ y, y < bn ∧ b = p y, rfl, rfl, rfl, ?_, fun b hF => ?_⟩
  · refine { chip := h.chip, row := hgb, rowAt := fun i hi x u hu => ?_, prow := fun i hi => (hq i hi).1, prowAt := fun i hi j hj x u hu => ?_, len := fun i hi j hj => rep_len 288 255, pinj := h.inj, evs := EvS.nil _ _ _ _, cap := ⟨hc, fun i hi => (hq i hi).2.2.1⟩, fc := .inl rfl, fb := .inr (.inl rfl), fp := fun i hi => .inr (.inr ⟨i, hi, rfl⟩), disj := fun b _ hr => hr, ltm := fun b hF => ?_, ltr := fun b hr => hr.elim, bnd := hb, opsb := ⟨Int.le_refl _, by show (0 : Int) ≤ 1000000; decide⟩ }
    · have hx := (List.getElem?_eq_some_iff.1 hu).1
      have hx4 : x < 4 := hx
      have hi : i < bn := hi
      have := rnewL_at p pc pn bn i hi x u hu
      rw [← ht, List.getElem?_take_of_lt (by omega)] at this
      simpa using this
    · have hx := (List.getElem?_eq_some_iff.1 hu).1
      rw [pgL_len] at hx
      have hj : j < pn := hj
      have h4 := (hq i hi).2.2.2
      have hfl := flat_at pgL_len ((List.range pn).map fun _ => rep 288 255) j (rep 288 255) (by simp [hj]) x u hu
      have : (blankL pn)[j * 288 + x]? = some u := hfl
      rw [← h4] at this
      have hlt : j * 288 + x < pn * 288 := by
        have : (j + 1) * 288 ≤ pn * 288 := Nat.mul_le_mul_right _ (by omega)
        omega
      rw [List.getElem?_take_of_lt hlt] at this
      simpa using this
    · rcases hF with rfl | rfl | ⟨y, hy, rfl⟩
      · exact h.chip.lt
      · exact hgb.lt
      · exact (hq y hy).1.lt
  · rcases hF with rfl | rfl | ⟨y, hy, rfl⟩
    · exact h.gec
    · exact hg
    · exact (hq y hy).2.1
/-- One cell of what is known of a block. -/
theorem RefR.set_look {W : World} {Fm Fr : Nat → Prop} {c : Nat} {st : Chip} {L : RLay} (h : RefR W Fm Fr c st L) (i : Nat) (hi : i < st.bn) (x : Nat) (hx : x < 4) (v : Value) (k : Look) (hk : rblkL L (st.setLook i k) i = (rblkL L st i).set x v) :
    RefR (W.setCell ⟨L.ba, i * 4 + x, none⟩ v) Fm Fr c (st.setLook i k) { L with barr := L.barr.setIfInBounds (i * 4 + x) v } := by
  have hpg : ∀ y, ((st.setLook i k).blk y).pages = (st.blk y).pages := fun y => setLook_pages st i y k
  have hsz : (W.setCell ⟨L.ba, i * 4 + x, none⟩ v).heap.size = W.heap.size := by simp [World.setCell]
  have hsame : Same Fr W (W.setCell ⟨L.ba, i * 4 + x, none⟩ v) := ⟨fun b hb => Below.heap_setCell W ⟨L.ba, i * 4 + x, none⟩ v b (fun e => by subst e; exact h.disj _ h.fb hb), by rw [hsz]; exact Nat.le_refl _⟩
  refine { chip := h.chip.far _ _ (fun e => (h.row.ne h.chip (by decide)) e), row := h.row.set _ _, rowAt := fun y hy z u hu => ?_, prow := fun y hy => (h.prow y hy).far _ _ (fun e => (h.row.ne (h.prow y hy) (by decide)) e), prowAt := fun y hy j hj z u hu => ?_, len := fun y hy j hj => by rw [hpg]; exact h.len y hy j hj, pinj := h.pinj, evs := h.evs.same hsame, cap := h.cap, fc := h.fc, fb := h.fb, fp := h.fp, disj := h.disj, ltm := fun b hb => by rw [hsz]; exact h.ltm b hb, ltr := fun b hb => by rw [hsz]; exact h.ltr b hb, bnd := h.bnd, opsb := h.opsb }
  · have hz := (List.getElem?_eq_some_iff.1 hu).1
    have hz4 : z < 4 := hz
    show (L.barr.setIfInBounds (i * 4 + x) v)[y * 4 + z]? = some u
    by_cases e : y = i
    · subst e
      have hu : (rblkL L (st.setLook y k) y)[z]? = some u := hu
      rw [hk] at hu
      by_cases e2 : z = x
      · subst e2
        rw [List.getElem?_set_self (by exact hz4)] at hu
        cases hu
        have hin := (Array.getElem?_eq_some_iff.1 (h.rowAt y hy z _ (List.getElem?_eq_getElem (show z < (rblkL L st y).length from hz4)))).1
        simp [hin]
      · rw [List.getElem?_set_ne (fun e3 => e2 e3.symm)] at hu
        rw [Array.getElem?_setIfInBounds_ne (by omega)]
        exact h.rowAt y hy z u hu
    · have he : rblkL L (st.setLook i k) y = rblkL L st y := by unfold rblkL; rw [setLook_look, if_neg e]; rfl
      have hu : (rblkL L (st.setLook i k) y)[z]? = some u := hu
      rw [he] at hu
      rw [Array.getElem?_setIfInBounds_ne (by omega)]
      exact h.rowAt y hy z u hu
  · rw [hpg] at hu
    exact h.prowAt y hy j hj z u hu
theorem RefR.upd_new {W W' : World} {Fm Fr Fr' : Nat → Prop} {c : Nat} {st : Chip} {L : RLay} (h : RefR W Fm Fr c st L) (_ : ∀ b, Fr b → Fr' b) (hdisj : ∀ b, Fm b → ¬ Fr' b) (hlt : ∀ b, Fr' b → b < W'.heap.size) (v : Value) (evs : List Ev)
    (hb : Box W' c 92 (refA { L with ev := v } { st with evs := evs })) (hg : W.grownBy W' (some c)) (hev : EvS W' Fr' v evs) : RefR W' Fm Fr' c { st with evs := evs } { L with ev := v } where
  chip := hb
  row := h.row.grown hg (by simpa using (h.row.ne h.chip (by decide)))
  rowAt := h.rowAt
  prow i hi := (h.prow i hi).grown hg (by simpa using ((h.prow i hi).ne h.chip (by decide)))
  prowAt := h.prowAt
  len := h.len
  pinj := h.pinj
  evs := hev
  cap := h.cap
  fc := h.fc
  fb := h.fb
  fp := h.fp
  disj := hdisj
  ltm b hb := Nat.lt_of_lt_of_le (h.ltm b hb) hg.size
  ltr := hlt
  bnd := h.bnd
  opsb := h.opsb
/-- A chip whose events are on their way. -/
structure EvNewR (w0 W : World) (c : Nat) (st : Chip) (L : RLay) (ps : List (Ev × Value)) (vE : Value) : Prop where
  chip : Box W c 92 (refA { L with ev := vE } st)
  own : W.ownsRow w0.heap.size 67 3 vE ps.length (evCells ps)
  masks : ∀ p, p ∈ ps → MaskS W w0.heap.size p.2 p.1.mask
  grown : w0.grownBy W (some c)
theorem EvNewR.below {w0 W W' : World} {c : Nat} {st : Chip} {L : RLay} {ps : List (Ev × Value)} {vE : Value} (h : EvNewR w0 W c st L ps vE) (hb : Below W.heap.size W W') : EvNewR w0 W' c st L ps vE where
  chip := h.chip.below hb
  own := own_below h.own hb
  masks p hp := (h.masks p hp).heap (fun g cap _ ho => hb.block g ho.lt)
  grown := ⟨hb.os.trans h.grown.os, hb.tape.trans h.grown.tape, hb.output.trans h.grown.output, Nat.le_trans h.grown.size hb.size, fun b h1 h2 => (hb.block b (Nat.lt_of_lt_of_le h1 h.grown.size)).trans (h.grown.block b h1 h2)⟩
/-- An event more. -/
theorem EvNewR.push {w0 W : World} {c : Nat} {st : Chip} {L : RLay} {ps : List (Ev × Value)} {vE : Value} (h : EvNewR w0 W c st L ps vE) (hl : ps.length < 10000000) (s : Nat) (e : Ev) (mv : Value) (hmv : MaskS W w0.heap.size mv e.mask)
    (h0 : W.cell? ⟨s, 0, none⟩ = some (.int .i64 e.at_)) (h1 : W.cell? ⟨s, 1, none⟩ = some (.int .i64 e.kind)) (h2 : W.cell? ⟨s, 2, none⟩ = some mv) (ty : TypeId) :
    ∃ v' w', (Builtin.append_ #[25, 25] ty #[vE, .slice (some ⟨s, 0, none⟩) 1 1]).run Try.prog W = .ok v' w' ∧ W.heap.size ≤ w'.heap.size ∧ Box w' c 92 (refA { L with ev := vE } st) ∧ (∃ a cap, v' = .slice a (ps.length + 1) cap) ∧ EvNewR w0 (w'.setCell ⟨c, 3, none⟩ v') c st L (ps ++ [(e, mv)]) v' := by
  obtain ⟨i0, hi0, hz0, hz1, hz2⟩ := info_parts info67
  obtain ⟨ma, mcap, hms⟩ : ∃ a cap, mv = .slice a e.mask.length cap := by
    obtain ⟨⟨a, cap, hh, _⟩, _⟩ := hmv; exact ⟨a, cap, hh⟩
  obtain ⟨v', w', hr, k2, k3, _, k5⟩ := run_append_own_at (P := Try.prog) W w0.heap.size 25 ty 67 i0 (.agg #[.int .i64 0, .int .i64 0, .slice none 0 0]) 3 40 Try.underlying25 hi0 hz0 hz1 hz2 rfl (by decide) vE ps.length (evCells ps) h.own ⟨s, 0, none⟩ 1 1 [.int .i64 e.at_, .int .i64 e.kind, mv] rfl (fun j u hu => by
    match j, hu with
    | 0, hu =>
      simp at hu; subst hu
      show W.cell? ((⟨s, 0, none⟩ : Addr).add 0) = _
      rw [show (⟨s, 0, none⟩ : Addr).add 0 = ⟨s, 0, none⟩ from by simp [Addr.add]]
      exact h0
    | 1, hu =>
      simp at hu; subst hu
      rw [show (⟨s, 0, none⟩ : Addr).add 1 = ⟨s, 1, none⟩ from by simp [Addr.add]]
      exact h1
    | 2, hu =>
      simp at hu; subst hu
      rw [show (⟨s, 0, none⟩ : Addr).add 2 = ⟨s, 2, none⟩ from by simp [Addr.add]]
      exact h2) (fun u hu => by simp at hu; rcases hu with rfl | rfl | rfl; rfl; rfl; rw [hms]; rfl) (by unfold maxLen; omega) (by omega) h.grown.size
  have hcx := h.chip.grown_own h.own k3 (by decide)
  refine ⟨v', w', hr, k3.size, hcx, ?_, ?_⟩
  · obtain ⟨_, ⟨hv, _⟩ | ⟨g, cap, cur, hv, _⟩⟩ := k2
    · omega
    · exact ⟨_, _, hv⟩
  have hng : ∀ g, some g = vE.ownBlock → w0.heap.size ≤ g ∧ ∃ cur, Box W g 67 cur := by
    intro g hg
    obtain ⟨_, ⟨rfl, _⟩ | ⟨g', cap, cur, rfl, hge, hh, _⟩⟩ := h.own
    · cases hg
    · have : g = g' := by simpa [Value.ownBlock] using hg
      subst this
      exact ⟨hge, cur, hh⟩
  have keepM : ∀ {p : Ev × Value}, MaskS W w0.heap.size p.2 p.1.mask → MaskS (w'.setCell ⟨c, 3, none⟩ v') w0.heap.size p.2 p.1.mask := fun hp => hp.heap fun g cap _ ho => by
    have e1 : w'.heap[g]? = W.heap[g]? := k3.block g ho.lt (fun e => by obtain ⟨_, cur, hx⟩ := hng g e; exact ho.tag hx (by decide) rfl)
    exact (Below.heap_setCell w' ⟨c, 3, none⟩ v' g (Ne.symm (ho.tag h.chip (by decide)))).trans e1
  refine ⟨hcx.set 3 v', ?_, ?_, ?_⟩
  · rw [List.length_append, evCells_snoc]
    refine k2.kept (grown_set1 w' c 3 v') ?_
    obtain ⟨_, ⟨hv, h0⟩ | ⟨g, cap, cur, hv, _, hh, _⟩⟩ := k2
    · omega
    · right
      intro e
      rw [hv] at e
      have : g = c := by simpa [Value.ownBlock] using e
      subst this
      have hbx : w'.heap[g]? = some (.cells _ 92 (0, 0)) := hcx
      rw [hh] at hbx
      cases hbx
  · intro p hp
    rcases List.mem_append.1 hp with hp | hp
    · exact keepM (h.masks p hp)
    · rw [List.mem_singleton.1 hp]
      exact keepM (p := (e, mv)) hmv
  · refine ⟨k3.os.trans h.grown.os, k3.tape.trans h.grown.tape, k3.output.trans h.grown.output, Nat.le_trans h.grown.size (by simpa [World.setCell] using k3.size), fun b hb hne => ?_⟩
    have hb' : b < W.heap.size := Nat.lt_of_lt_of_le hb h.grown.size
    rw [Below.heap_setCell w' ⟨c, 3, none⟩ v' b (fun e => hne (by rw [e]))]
    rw [k3.block b hb' (fun e => by have := (hng b e).1; omega)]
    exact h.grown.block b hb hne
/-- The events are the chip's. -/
theorem EvNewR.done {w0 W : World} {c : Nat} {st : Chip} {L : RLay} {ps : List (Ev × Value)} {vE : Value} {Fm Fr : Nat → Prop} {B : Nat} (hB : B ≤ w0.heap.size) (hC : RefR w0 Fm Fr c st L) (hFr : ∀ b, Fr b → B ≤ b) (h : EvNewR w0 W c st L ps vE) :
    RefR W Fm (fun b => B ≤ b ∧ b < W.heap.size ∧ ¬ Fm b) c { st with evs := ps.map Prod.fst } { L with ev := vE } := by
  refine hC.upd_new (fun b hb => ⟨hFr b hb, Nat.lt_of_lt_of_le (hC.ltr b hb) h.grown.size, fun hm => hC.disj b hm hb⟩) (fun b hm hr => hr.2.2 hm) (fun b hr => hr.2.1) vE _ h.chip h.grown ?_
  obtain ⟨hlen, hrow⟩ := h.own
  rcases hrow with ⟨rfl, h0⟩ | ⟨g, cap, cur, rfl, hg, hh, hc, hm, hs, ht⟩
  · refine ⟨none, 0, by simp [h0], by simp [h0], fun j e he => ?_⟩
    have : ps = [] := List.length_eq_zero_iff.1 h0
    subst this
    simp at he
  · refine ⟨some ⟨g, 0, none⟩, cap, by simp, by simpa using hc, fun j e he => ?_⟩
    rw [List.getElem?_map] at he
    cases hp : ps[j]? with
    | none => rw [hp] at he; cases he
    | some p =>
      rw [hp] at he
      cases he
      obtain ⟨c0, c1, c2⟩ := evCells_at ps j p hp
      have hjl : j < ps.length := (List.getElem?_eq_some_iff.1 hp).1
      have hcell : ∀ i v, i < ps.length * 3 → (evCells ps)[i]? = some v → W.cell? ⟨g, 0 + i, none⟩ = some v := by
        intro i v hi hv
        rw [← ht, List.getElem?_take_of_lt hi] at hv
        rw [show (⟨g, 0 + i, none⟩ : Addr) = ⟨g, i, none⟩ by simp]
        exact (Box.cell (show Box W g 67 cur from hh) i).trans (by simpa using hv)
      have hgl : g < W.heap.size := (show Box W g 67 cur from hh).lt
      have hgm : ¬ Fm g := fun hf => by have := hC.ltm g hf; omega
      refine ⟨g, 0, p.2, rfl, hgl, ⟨Nat.le_trans hB hg, hgl, hgm⟩, hcell _ _ (by omega) c0, hcell _ _ (by omega) c1, hcell _ _ (by omega) c2, fun W' hW' => ?_⟩
      obtain ⟨m1, m2⟩ := (h.masks p (List.mem_of_getElem? hp)).heap (W' := W') (fun gm cm hgm' ho => hW'.1 gm ⟨Nat.le_trans hB hgm', ho.lt, fun hf => by have := hC.ltm gm hf; omega⟩)
      exact m1
theorem evNewR_zero {w : World} {Fm Fr : Nat → Prop} {c : Nat} {st : Chip} {L : RLay} (hC : RefR w Fm Fr c st L) (he : L.ev = .slice none 0 0) : EvNewR w w c st L [] (.slice none 0 0) where
  chip := by
    have h := hC.chip
    unfold refA at h ⊢
    rw [he] at h
    exact h
  own := World.ownsRow_nil _ _ _ _
  masks p hp := by cases hp
  grown := ⟨rfl, rfl, rfl, Nat.le_refl _, fun _ _ _ => rfl⟩
end Go.Proofs.Ytlgjlhgdpiipbaa
