import Derived.Test.YtlgjlhgdpiipbaaMat
import Derived.Deep.MidRow
/- The reference's chip behind a change of a page, of a block's pages. -/
namespace Go.Proofs.Ytlgjlhgdpiipbaa
open Go.RowKit
/-- Cells laid from a place on. -/
def setArr : Array Value → Nat → List Value → Array Value
  | a, _, [] => a
  | a, o, v :: r => setArr (a.setIfInBounds o v) (o + 1) r
theorem setArr_size : ∀ (l : List Value) (a : Array Value) (o : Nat), (setArr a o l).size = a.size
  | [], _, _ => rfl
  | v :: r, a, o => by unfold setArr; rw [setArr_size r]; simp
theorem Box.setCells {b : Nat} {t : TypeId} : ∀ (l : List Value) (o : Nat) (W : World) (a : Array Value), Box W b t a → Box (W.setCells b o l) b t (setArr a o l)
  | [], _, _, _, h => h
  | v :: r, o, W, a, h => by
    rw [World.setCells]
    exact Box.setCells r (o + 1) _ _ (h.set o v)
theorem setCells_other (b : Nat) : ∀ (l : List Value) (o : Nat) (W : World) (k : Nat), k ≠ b → (W.setCells b o l).heap[k]? = W.heap[k]?
  | [], _, _, _, _ => rfl
  | v :: r, o, W, k, h => by
    rw [World.setCells, setCells_other b r (o + 1) _ k h]
    exact Below.heap_setCell W ⟨b, o, none⟩ v k h
theorem setCells_rest (b : Nat) : ∀ (l : List Value) (o : Nat) (W : World), (W.setCells b o l).os = W.os ∧ (W.setCells b o l).tape = W.tape ∧ (W.setCells b o l).output = W.output ∧ (W.setCells b o l).heap.size = W.heap.size
  | [], _, _ => ⟨rfl, rfl, rfl, rfl⟩
  | v :: r, o, W => by
    rw [World.setCells]
    obtain ⟨h1, h2, h3, h4⟩ := setCells_rest b r (o + 1) (W.setCell ⟨b, o, none⟩ v)
    exact ⟨h1, h2, h3, h4.trans (by simp [World.setCell])⟩
theorem setCells_grown (W : World) (b o : Nat) (l : List Value) : W.grownBy (W.setCells b o l) (some b) := by
  obtain ⟨h1, h2, h3, h4⟩ := setCells_rest b l o W
  exact ⟨h1, h2, h3, by rw [h4]; exact Nat.le_refl _, fun k _ hne => setCells_other b l o W k (fun e => hne (by rw [e]))⟩
theorem setArr_in : ∀ (l : List Value) (a : Array Value) (o k : Nat), o + l.length ≤ a.size → k < l.length → (setArr a o l)[o + k]? = l[k]?
  | v :: r, a, o, 0, h, _ => by
    have : ∀ (r : List Value) (a : Array Value) (o p : Nat), p < o → (setArr a o r)[p]? = a[p]? := by
      intro r
      induction r with
      | nil => intro a o p _; rfl
      | cons v r ih =>
        intro a o p hp
        unfold setArr
        rw [ih _ _ _ (by omega), Array.getElem?_setIfInBounds_ne (by omega)]
    unfold setArr
    rw [this r _ _ _ (by omega)]
    simp at h
    have h2 : o < a.size := by omega
    simp [h2]
  | v :: r, a, o, k + 1, h, hk => by
    unfold setArr
    simp at h hk
    have := setArr_in r (a.setIfInBounds o v) (o + 1) k (by simp; omega) hk
    rw [show o + (k + 1) = o + 1 + k by omega, this]
    simp
theorem setArr_out : ∀ (l : List Value) (a : Array Value) (o p : Nat), p < o ∨ o + l.length ≤ p → (setArr a o l)[p]? = a[p]?
  | [], _, _, _, _ => rfl
  | v :: r, a, o, p, h => by
    unfold setArr
    simp at h
    rw [setArr_out r _ _ _ (by omega), Array.getElem?_setIfInBounds_ne (by omega)]
section
variable {W : World} {Fm Fr : Nat → Prop} {c : Nat} {st : Chip} {L : RLay}
theorem RefR.psize (h : RefR W Fm Fr c st L) {i : Nat} (hi : i < st.bn) {j : Nat} (hj : j < st.pn) : j * 288 + 288 ≤ (L.parr i).size := by
  have := h.prowAt i hi j hj 287 _ (List.getElem?_eq_getElem (show 287 < (pgL ((st.blk i).pages j)).length by rw [pgL_len]; omega))
  have := (Array.getElem?_eq_some_iff.1 this).1
  omega
theorem RefR.there_pg (h : RefR W Fm Fr c st L) {i : Nat} (hi : i < st.bn) {j : Nat} (hj : j < st.pn) (l : List UInt8) (hl : l.length = 288) : W.there (L.p i) (j * 288) (cellsB l).size := fun x hx => by
  rw [cellsB_size, hl] at hx
  refine ⟨?_, (h.prow i hi).frozen _⟩
  rw [(h.prow i hi).cell]
  have := h.psize hi hj
  simp; omega
/-- A page's store. -/
theorem RefR.store_pg (h : RefR W Fm Fr c st L) {i : Nat} (hi : i < st.bn) {j : Nat} (hj : j < st.pn) (l : List UInt8) (hl : l.length = 288) : (storeVar 48 ⟨L.p i, j * 288, none⟩ (.agg (cellsB l))).run Try.prog W = .ok () (W.setCells (L.p i) (j * 288) (l.map byteV)) := by
  have := run_storeVar_mid (P := Try.prog) W (L.p i) (j * 288) 48 (cellsB l) (h.there_pg hi hj l hl) (by rw [cellsB_size, hl]; exact size48) (cellsB_one l)
  simpa [cellsB] using this
def RLay.setPage (L : RLay) (i j : Nat) (l : List UInt8) : RLay := { L with parr := fun y => if y = i then setArr (L.parr i) (j * 288) (l.map byteV) else L.parr y }
theorem RefR.set_page (h : RefR W Fm Fr c st L) {i : Nat} (hi : i < st.bn) {j : Nat} (hj : j < st.pn) (l : List UInt8) (hl : l.length = 288) : RefR (W.setCells (L.p i) (j * 288) (l.map byteV)) Fm Fr c (st.setPage i j l) (L.setPage i j l) := by
  have hg := setCells_grown W (L.p i) (j * 288) (l.map byteV)
  have hlk : ∀ y, ((st.setPage i j l).blk y).look = (st.blk y).look := fun y => setPage_look st i j y l
  have hps := h.psize hi hj
  refine { chip := h.chip.grown hg (by simpa using (h.chip.ne (h.prow i hi) (by decide))), row := h.row.grown hg (by simpa using (h.row.ne (h.prow i hi) (by decide))), rowAt := fun y hy x u hu => ?_, prow := fun y hy => ?_, prowAt := fun y hy k hk x u hu => ?_, len := fun y hy k hk => ?_, pinj := h.pinj, evs := h.evs.same (same_grown hg (h.fr_ne (h.fp i hi))), cap := h.cap, fc := h.fc, fb := h.fb, fp := h.fp, disj := h.disj, ltm := fun b hb => Nat.lt_of_lt_of_le (h.ltm b hb) hg.size, ltr := fun b hb => Nat.lt_of_lt_of_le (h.ltr b hb) hg.size, bnd := h.bnd, opsb := h.opsb }
  · refine h.rowAt y hy x u ?_
    have : rblkL (L.setPage i j l) (st.setPage i j l) y = rblkL L st y := by unfold rblkL; rw [hlk]; rfl
    rw [← this]; exact hu
  · show Box _ (L.p y) 48 (if y = i then _ else _)
    by_cases e : y = i
    · subst e; rw [if_pos rfl]; exact (h.prow y hy).setCells _ _ _
    · rw [if_neg e]
      exact (h.prow y hy).grown hg (by simpa using fun e2 => e (h.pinj y hy i hi e2))
  · show (if y = i then setArr (L.parr i) (j * 288) (l.map byteV) else L.parr y)[k * 288 + x]? = some u
    rw [setPage_pages] at hu
    have hx := (List.getElem?_eq_some_iff.1 hu).1
    rw [pgL_len] at hx
    by_cases e : y = i
    · subst e
      rw [if_pos rfl]
      by_cases e2 : k = j
      · subst e2
        rw [if_pos ⟨rfl, rfl⟩, pgL_eq hl] at hu
        rw [setArr_in _ _ _ _ (by rw [List.length_map, hl]; exact hps) (by rw [List.length_map, hl]; exact hx)]
        exact hu
      · rw [if_neg (fun h => e2 h.2)] at hu
        rw [setArr_out _ _ _ _ (by rw [List.length_map, hl]; rcases Nat.lt_or_gt_of_ne e2 with h3 | h3; left; have : (k + 1) * 288 ≤ j * 288 := Nat.mul_le_mul_right _ h3; omega; right; have : (j + 1) * 288 ≤ k * 288 := Nat.mul_le_mul_right _ h3; omega)]
        exact h.prowAt y hy k hk x u hu
    · rw [if_neg (fun h => e h.1)] at hu
      rw [if_neg e]
      exact h.prowAt y hy k hk x u hu
  · rw [setPage_pages]
    split
    · exact hl
    · exact h.len y hy k hk
end
end Go.Proofs.Ytlgjlhgdpiipbaa
/- The reference's Program. -/
namespace Go.Proofs.Ytlgjlhgdpiipbaa
open Go.RowKit
/-- What an operation of the reference's leaves. -/
def ROpRes (Fm Fr : Nat → Prop) (c : Nat) (r : Int × Chip) (w : World) (e : Ending) (w' : World) : Prop :=
  ∃ (Fm' : Nat → Prop) (L' : RLay), e = .returned (.int .i64 r.1) ∧ RefR w' Fm' Fr c r.2 L' ∧ Kept Fm w w' ∧ ∀ x, Fm' x → Fm x ∨ w.heap.size ≤ x
theorem allOf_one (pg : List UInt8) : allOf (fun _ => pg) 1 = pg := by unfold allOf; simp [List.range_succ]
theorem piece_one (b : List UInt8) (h : b.length = 288) : piece b 0 = b := by unfold piece; rw [Nat.zero_mul, List.drop_zero, ← h, List.take_length]
theorem can_asks {st : Chip} {n p : Int} (h : ¬ st.asks n p = 0) : st.can n p = st.asks n p := if_pos h
theorem can_bad {st : Chip} {n p : Int} (h : st.asks n p = 0) (hb : (st.blk n.toNat).look.bad = true) : st.can n p = 23 := by
  unfold Chip.can; rw [if_neg (by simpa using h), if_pos hb]
theorem can_zero {st : Chip} {n p : Int} (h : st.can n p = 0) : st.asks n p = 0 ∧ (st.blk n.toNat).look.bad = false := by
  by_cases h0 : st.asks n p = 0
  · refine ⟨h0, ?_⟩
    rcases hb : (st.blk n.toNat).look.bad with _ | _
    · rfl
    · rw [can_bad h0 hb] at h; cases h
  · rw [can_asks h0] at h; exact absurd h h0
theorem can_program {st : Chip} {n p : Int} (pg : List UInt8) (h : ¬ st.can n p = 0) : st.program n p pg = (st.can n p, st) := by
  by_cases h0 : st.asks n p = 0
  · rcases hb : (st.blk n.toNat).look.bad with _ | _
    · exact absurd (by unfold Chip.can; rw [if_neg (by simpa using h0), if_neg (by rw [hb]; decide)]) h
    · rw [can_bad h0 hb]
      unfold Chip.program
      rw [if_neg (by simpa using h0), if_pos hb]
  · rw [can_asks h0]
    unfold Chip.program
    rw [if_pos h0]
set_option maxRecDepth 100000 in
set_option maxHeartbeats 16000000 in
theorem rprogram_any {Fm Fr : Nat → Prop} {c : Nat} {st : Chip} {L : RLay} {w : World} (h : RefR w Fm Fr c st L) (hf : st.fits) (hks : st.kinds) (ho : st.ops < 1000000) (n page : Int) (pg : List UInt8) (hp : pg.length = 288) :
    Calls Try.prog 51 #[.pointer (some ⟨c, 0, none⟩), .int .i64 n, .int .i64 page, .agg (cellsB pg)] w (ROpRes Fm Fr c (st.program n page pg) w) := by
  have hb := (Below.refl w.heap.size w).alloc (Nat.le_refl _) (.cells (cellsB pg) 48)
  have h0 := h.below hb
  have bP := Box.new w 48 (cellsB pg)
  have hnP := h.new (Nat.le_refl w.heap.size)
  have hk0 : Kept Fm w _ := Kept.of_below hb
  obtain ⟨W0, hW0⟩ : ∃ W0, w.alloc (.cells (cellsB pg) 48) = W0 := ⟨_, rfl⟩
  rw [hW0] at h0 bP hk0
  have hca := can_any h0 n page
  by_cases hc0 : st.can n page = 0
  case neg =>
    rw [can_program pg hc0]
    obtain ⟨a, ha⟩ : ∃ a, st.can n page = a := ⟨_, rfl⟩
    rw [ha] at hca hc0 ⊢
    have hne : (a != 0) = true := by simpa using hc0
    have hfin := Lib.hid (show ROpRes Fm Fr c (a, st) w (.returned (.int .i64 a)) W0 from ⟨Fm, L, rfl, h0, hk0, fun x hx => .inl hx⟩)
    replace hca := Lib.hid hca
    clear h h0 hc0 ha bP hk0 hb hnP
    go_enter Try.func51, Try.ntmps51
    go_wp2_with (go_at_call 57; (with_reducible refine hca.out.mono ?_); rintro e w' ⟨rfl, hw⟩; obtain rfl := hw.symm)
    go_ret
    exact hfin.out
  obtain ⟨has, hbad⟩ := can_zero hc0
  obtain ⟨hoff, hth, i, j, rfl, hi, rfl, hj⟩ := Chip.asks_ok has
  rw [hc0] at hca
  have c2 := h0.c2
  have b2 := h0.bcell hi 2 _ rfl
  have hI0 : (0 : Int) ≤ (i : Int) := by omega
  have hI1 : (i : Int) < (st.bn : Int) := by omega
  have hJ0 : (0 : Int) ≤ (j : Int) := by omega
  have hJ1 : (j : Int) < (st.pn : Int) := by omega
  have hj32 : (j : Int) < 32 := by have := h.bnd.2.2.2; omega
  replace hca := Lib.hid hca
  by_cases hlt : (j : Int) < (st.blk i).look.next
  · have e : st.program (i : Int) (j : Int) pg = (24, st) := by unfold Chip.program; rw [if_neg (by simpa using has)]; show (if (st.blk i).look.bad = true then _ else _) = _; rw [if_neg (by rw [show (st.blk i).look.bad = false from hbad]; decide)]; exact if_pos hlt
    rw [e]
    have hfin := Lib.hid (show ROpRes Fm Fr c (24, st) w (.returned (.int .i64 24)) W0 from ⟨Fm, L, rfl, h0, hk0, fun x hx => .inl hx⟩)
    obtain ⟨nx, hnx⟩ : ∃ x, (st.blk i).look.next = x := ⟨_, rfl⟩
    rw [hnx] at hlt b2
    clear h h0 bP hk0 hb hnP e has hbad hoff hth hnx hc0
    go_enter Try.func51, Try.ntmps51
    go_wp2_with (go_at_call 57; (with_reducible refine hca.out.mono ?_); rintro e w' ⟨rfl, hw⟩; obtain rfl := hw.symm)
    go_ret
    exact hfin.out
  obtain ⟨s1, hs1⟩ : ∃ s, st.nextEv.2.setPage i j (mask pg st.nextEv.1.mask) = s := ⟨_, rfl⟩
  obtain ⟨s2, hs2⟩ : ∃ s, s1.setLook i { (s1.blk i).look with next := (j : Int) + 1 } = s := ⟨_, rfl⟩
  have e : st.program (i : Int) (j : Int) pg = ((s2.ends st.nextEv.1.kind).1, (s2.ends st.nextEv.1.kind).2.2) := by
    unfold Chip.program
    rw [if_neg (by simpa using has)]
    show (if (st.blk i).look.bad = true then _ else _) = _
    rw [if_neg (by rw [show (st.blk i).look.bad = false from hbad]; decide)]
    show (if (j : Int) < (st.blk i).look.next then _ else _) = _
    rw [if_neg hlt, ← hs2, ← hs1]
    rfl
  rw [e]
  obtain ⟨n1, n2, n3⟩ := nextEv_blk st
  have hbg := begins_any h0 ho
  have hmk := nextEv_mask st hf
  have hzero : st.nextEv.1.kind = 0 → st.nextEv.1.mask = [] := fun hz => by
    rcases nextEv_kind hks with e | e
    · rw [e]; rfl
    · omega
  obtain ⟨⟨ev, st1⟩, hN⟩ : ∃ N, st.nextEv = N := ⟨_, rfl⟩
  rw [hN] at hs1 hbg hmk hzero n1 n2 n3 ⊢
  dsimp only at hs1 hmk hzero n1 n2 n3 ⊢
  obtain ⟨nx, hnx⟩ : ∃ x, (st.blk i).look.next = x := ⟨_, rfl⟩
  rw [hnx] at hlt b2
  obtain ⟨eat, ek, em⟩ := ev
  dsimp only at hs1 hmk hzero ⊢
  replace hbg := Lib.hid hbg
  replace hk0 := Lib.hid hk0
  replace bP := Lib.hid bP
  replace hnP := Lib.hid hnP
  clear h h0 hb e has hbad hoff hth hnx hc0 hf hks ho hN
  go_enter Try.func51, Try.ntmps51
  go_wp2_with (go_at_call 57; (with_reducible refine hca.out.mono ?_); rintro e w' ⟨rfl, hw⟩; obtain rfl := hw.symm)
  clear hca c2 b2 hlt
  refine hbg.out.mono ?_
  rintro e w2 ⟨v, ev', rfl, ⟨mv, rfl, hmv⟩, h2, hk2⟩
  dsimp only at h2 hmv
  obtain ⟨ma, mc, hme⟩ := (hmv w2 (Same.refl _ _)).len
  obtain ⟨ml, hml⟩ : ∃ x, em.length = x := ⟨_, rfl⟩
  rw [hml] at hme
  subst hme
  have bP2 := bP.out.kept hk2 hnP.out.1
  have hal : Below w2.heap.size w2 (w2.alloc (.cells #[.int .i64 eat, .int .i64 ek, .slice ma ml mc] 67)) := (Below.refl _ _).alloc (Nat.le_refl _) _
  have bE := Box.new w2 67 #[.int .i64 eat, .int .i64 ek, .slice ma ml mc]
  have h3 := h2.below hal
  have bP3 := bP2.below hal
  have hk3 := (hk0.out.trans hk2 (fun b hb => .inl hb)).then hal
  have hmr := hmv _ ⟨fun b hb => hal.block b (h2.ltr b hb), hal.size⟩
  have hEne : w.heap.size ≠ w2.heap.size := by have := bP2.lt; omega
  have hEF : ¬ Fm w2.heap.size := (h2.new (Nat.le_refl _)).1
  have e1 := bE.get 1 _ rfl
  replace bE := Lib.hid bE
  replace bP3 := Lib.hid bP3
  replace h3 := Lib.hid h3
  replace hk3 := Lib.hid hk3
  replace hmr := Lib.hid hmr
  replace hEF := Lib.hid hEF
  replace hEne := Lib.hid hEne
  clear hbg hk2 bP2 hal h2 hmv bP hk0
  go_upto_if 36 with fail
  obtain ⟨E, hE⟩ : ∃ E, w2.heap.size = E := ⟨_, rfl⟩
  obtain ⟨P, hP⟩ : ∃ P, w.heap.size = P := ⟨_, rfl⟩
  obtain ⟨W3, hW3⟩ : ∃ W, w2.alloc (.cells #[.int .i64 eat, .int .i64 ek, .slice ma ml mc] 67) = W := ⟨_, rfl⟩
  rw [hW3] at bE bP3 h3 hk3 hmr e1 ⊢
  rw [hE] at bE hEF hEne e1 ⊢
  rw [hP] at bP3 hnP hEne ⊢
  replace hP := Lib.hid hP
  clear hW3 hE
  go_cut [36] from 37 (fun _ wx => Box wx P 48 (cellsB (mask pg em)) ∧ RefR wx Fm Fr c st1 { L with ev := ev' } ∧ Kept Fm w wx ∧ Box wx E 67 #[.int .i64 eat, .int .i64 ek, .slice ma ml mc])
  case first =>
    by_cases hk0 : ek = 0
    · have hm0 : mask pg em = pg := by rw [hzero hk0, mask_nil]
      have z : (ek == 0) = true := by simpa using hk0
      have z1 : (ek != 0) = false := by simp [hk0]
      clear e1
      go_wp2_with fail
      go_meet
      case rel => exact ⟨by rw [hm0]; exact bP3.out, h3.out, hk3.out, bE.out⟩
    · have z1 : (ek != 0) = true := by simpa using hk0
      have hldp := bP3.out.loadPg hp
      have hal : Below W3.heap.size W3 (W3.alloc (.cells (cellsB pg) 48)) := (Below.refl _ _).alloc (Nat.le_refl _) _
      have e2 := (bE.out.below hal).get 2 _ rfl
      have hms := masked_any (fun _ => pg) 1 em W3.heap.size 0 1 (.slice ma ml mc) (W3.alloc (.cells (cellsB pg) 48)) (by rw [World.size_alloc]; omega) (fun x hx y u hu => by
        obtain rfl : x = 0 := by omega
        simp only [Nat.zero_mul, Nat.zero_add]
        refine (Box.new W3 48 (cellsB pg)).get y u ?_
        rw [pgL_eq hp] at hu
        unfold cellsB
        simpa using hu) (fun _ _ => hp) (hmr.out.below hal) (by omega) (by omega) (by omega)
      unfold MaskRes at hms
      have hp1 : piece (mask (allOf (fun _ => pg) 1) em) 0 = mask pg em := by rw [allOf_one, piece_one _ (by rw [mask_len]; exact hp)]
      have hq : (mask pg em).length = 288 := by rw [mask_len]; exact hp
      unfold pgV at hldp
      replace hms := Lib.hid hms
      clear e1
      go_upto_region 9 with fail
      go_wp2_with (first | (refine wpList_load_var rfl 48 _ rfl _ rfl _ hldp ?_) | (refine wpList_build_pg rfl _ rfl pg rfl hp ?_))
      refine hms.out.mono ?_
      rintro e w5 ⟨g, gc, rfl, hgo, hb5⟩
      have hb5' := hal.trans (hb5.mono hal.size)
      have hrd := RdC.of_own pgL_len (show w5.ownsRow _ 48 288 (.slice (some ⟨g, 0, none⟩) 1 gc) ((List.range 1).map (piece (mask (allOf (fun _ => pg) 1) em))).length _ from hgo)
      obtain ⟨b', o', c', hv', _, _, hcl⟩ := hrd.at (by simp [List.range_succ])
      cases hv'
      have hld5 : (loadVar 48 ⟨g, 0, none⟩).run Try.prog w5 = .ok (.agg (cellsB (mask pg em))) w5 := loadPg_at w5 g 0 (mask pg em) hq (fun x u hu => by
        have := hcl 0 (by simp) x u (by simp only [List.range_succ, List.range_zero, List.nil_append, List.map_cons, List.map_nil, List.getElem_cons_zero, hp1]; rw [pgL_eq hq]; exact hu)
        simpa using this)
      have bP5 := bP3.out.below hb5'
      obtain ⟨hst5, bP6, hg6⟩ := bP5.storePg (l := mask pg em) (by rw [cellsB_size, hp]) hq
      unfold pgV at hst5
      have hPn : ¬ Fm P ∧ ¬ Fr P := hnP.out
      have h6 := (h3.out.below hb5').same (W' := w5.setRow P (cellsB (mask pg em))) ⟨fun b hb => hg6.block b (by rcases hb with hb | hb; exact (h3.out.below hb5').ltm b hb; exact (h3.out.below hb5').ltr b hb) (fun e => by cases e; rcases hb with hb | hb; exact hPn.1 hb; exact hPn.2 hb), hg6.size⟩
      have hk6 := (hk3.out.then hb5').trans (G := fun b => b = P) (Kept.of_grown hg6 rfl) (fun b hb => .inr (by rw [hb, ← hP.out]; exact Nat.le_refl _))
      have bE6 := (bE.out.below hb5').grown hg6 (by simpa using hEne.out.symm)
      have hfin := Lib.hid (And.intro bP6 (And.intro h6 (And.intro hk6 bE6)))
      clear hgo hrd hcl bP5 bP6 hg6 h6 hk6 bE6 hb5 hb5' hal
      go_wp2_with (first | (refine wpList_load_var rfl 48 _ rfl _ rfl _ hld5 ?_) | (refine wpList_store_var rfl 48 _ _ rfl _ rfl _ rfl hst5 ?_))
      go_meet
      case rel => exact hfin.out
  case rest =>
    clear bE bP3 h3 hk3 hmr e1 hmk hzero hml
    obtain ⟨bP, hR, hk, bE⟩ := hcut
    have hql : (mask pg em).length = 288 := by rw [mask_len]; exact hp
    obtain ⟨q, hq⟩ : ∃ q, mask pg em = q := ⟨_, rfl⟩
    rw [hq] at hs1 bP hql
    have hi1 : i < st1.bn := by rw [n2]; exact hi
    have hj1 : j < st1.pn := by rw [n3]; exact hj
    have hR0 := hR.below ((Below.refl wc.heap.size wc).drew)
    have bP0 := Box.drew bP
    have hst := hR0.store_pg hi1 hj1 q hql
    have hset := hR0.set_page hi1 hj1 q hql
    have hgr := setCells_grown wc.drew (L.p i) (j * 288) (q.map byteV)
    have hPp : P ≠ L.p i := fun e => hnP.out.1 (by rw [e]; exact hR.fp i hi1)
    have hEp : E ≠ L.p i := fun e => hEF.out (by rw [e]; exact hR.fp i hi1)
    have bP1 := bP0.grown hgr (by simpa using hPp)
    have bE1 := (Box.drew bE).grown hgr (by simpa using hEp)
    have hk1 := (hk.then ((Below.refl wc.heap.size wc).drew)).trans (Kept.of_grown (F := Fm) hgr (hR.fp i hi1)) (fun _ hb => .inl hb)
    rw [hs1] at hset
    obtain ⟨W1, hW1⟩ : ∃ W, wc.drew.setCells (L.p i) (j * 288) (q.map byteV) = W := ⟨_, rfl⟩
    rw [hW1] at hset bP1 bE1 hk1
    have hst' : (storeVar 48 ⟨L.p i, j * 288, none⟩ (.agg (cellsB q))).run Try.prog wc.drew = .ok () W1 := by rw [← hW1]; exact hst
    have hsbn : s1.bn = st.bn := by rw [← hs1]; exact n2
    have hi2 : i < s1.bn := by rw [hsbn]; exact hi
    have hS0 : (fun W => W.cell? ⟨L.ba, i * 4, none⟩ = some (.slice (some ⟨L.p i, 0, none⟩) st.pn (L.pcap i)) ∧ (loadVar 48 ⟨P, 0, none⟩).run Try.prog W = .ok (.agg (cellsB q)) W) wc.drew := ⟨by have := hR0.bcell hi1 0 _ rfl; rw [show ({ L with ev := ev' } : RLay).p = L.p from rfl] at this; rw [← n3]; exact this, bP0.loadPg hql⟩
    have hS1 : (fun W => W.cell? ⟨L.ba, i * 4, none⟩ = some (.slice (some ⟨L.p i, 0, none⟩) st.pn (L.pcap i)) ∧ (loadVar 48 ⟨P, 0, none⟩).run Try.prog W = .ok (.agg (cellsB q)) W) W1 := ⟨by have := hset.bcell hi2 0 _ rfl; rw [← n3]; rw [show st1.pn = s1.pn by rw [← hs1]; rfl]; exact this, bP1.loadPg hql⟩
    have b2 := hset.bcell hi2 2 _ rfl
    have f2 : W1.frozen? ⟨L.ba, i * 4 + 2, none⟩ = false := hset.row.frozen _
    have hlook := hset.set_look i hi2 2 (by decide) (.int .i64 ((j : Int) + 1)) { (s1.blk i).look with next := (j : Int) + 1 } (by unfold rblkL; rw [setLook_look, if_pos rfl]; rfl)
    rw [hs2] at hlook
    have hbaE : E ≠ L.ba := fun e => hEF.out (by rw [e]; exact hR.fb)
    have bE2 := bE1.far ⟨L.ba, i * 4 + 2, none⟩ (.int .i64 ((j : Int) + 1)) (fun e => hbaE e.symm)
    have hk2 := hk1.set_in L.ba (i * 4 + 2) (.int .i64 ((j : Int) + 1)) hR.fb
    have y0 := bE2.get 0 _ rfl
    have y1 := bE2.get 1 _ rfl
    have y2 := bE2.get 2 _ rfl
    obtain ⟨x2, hx2⟩ : ∃ x, (s1.blk i).look.next = x := ⟨_, rfl⟩
    have b2' : W1.cell? ⟨L.ba, i * 4 + 2, none⟩ = some (.int .i64 x2) := by rw [← hx2]; exact b2
    have hends := Lib.hid (rends_any hlook eat ek (.slice ma ml mc))
    replace hk2 := Lib.hid hk2
    replace hS0 := Lib.hid hS0
    replace hS1 := Lib.hid hS1
    replace hst' := Lib.hid hst'
    clear bP hR hk bE hR0 bP0 hst hset hgr bP1 bE1 hk1 hlook bE2 b2 hx2 hq hs1 hs2
    go_upto_region 10 with fail
    refine wp_region_noPanic ?_
    refine wp_region_held_drew (S := fun W => W.cell? ⟨L.ba, i * 4, none⟩ = some (.slice (some ⟨L.p i, 0, none⟩) st.pn (L.pcap i)) ∧ (loadVar 48 ⟨P, 0, none⟩).run Try.prog W = .ok (.agg (cellsB q)) W) (by kernel_rfl) (hS0.out) (fun hHeld => ?_)
    refine wpAnyH_take (i := 0) (v := ?_) rfl (by kernel_rfl) (by kernel_rfl) (by kernel_rfl) (fun _ _ _ h => h) (Or.inl ⟨rfl, ?_⟩) (by assumption) ?_
    rotate_left
    · intro W hSw
      (try dsimp only at hSw)
      go_simp
      try with_reducible rfl
    try simp only [List.getElem_toArray, List.getElem_cons_zero, List.getElem_cons_succ, Act.put, List.setIfInBounds_toArray, List.set_cons_zero, List.set_cons_succ]
    refine wpAnyH_take (i := 1) (v := ?_) rfl (by kernel_rfl) (by kernel_rfl) (by kernel_rfl) (fun _ _ _ h => h) (Or.inl ⟨rfl, ?_⟩) (by assumption) ?_
    rotate_left
    · intro W hSw
      (try dsimp only at hSw)
      go_simp
      try with_reducible rfl
    try simp only [List.getElem_toArray, List.getElem_cons_zero, List.getElem_cons_succ, Act.put, List.setIfInBounds_toArray, List.set_cons_zero, List.set_cons_succ]
    refine wpAnyH_take (i := 2) (v := ?_) rfl (by kernel_rfl) (by kernel_rfl) (by kernel_rfl) (fun _ _ _ h => h) (Or.inl ⟨rfl, ?_⟩) (by assumption) ?_
    rotate_left
    · intro W hSw
      (try dsimp only at hSw)
      go_simp
      try with_reducible rfl
    try simp only [List.getElem_toArray, List.getElem_cons_zero, List.getElem_cons_succ, Act.put, List.setIfInBounds_toArray, List.set_cons_zero, List.set_cons_succ]
    refine wpAnyH_take (i := 3) (v := ?_) rfl (by kernel_rfl) (by kernel_rfl) (by kernel_rfl) (fun _ _ _ h => h) (Or.inl ⟨rfl, ?_⟩) (by assumption) ?_
    rotate_left
    · intro W hSw
      (try dsimp only at hSw)
      go_simp
      try with_reducible rfl
    try simp only [List.getElem_toArray, List.getElem_cons_zero, List.getElem_cons_succ, Act.put, List.setIfInBounds_toArray, List.set_cons_zero, List.set_cons_succ]
    refine wpAnyH_take (i := 4) (v := ?_) rfl (by kernel_rfl) (by kernel_rfl) (by kernel_rfl) (fun _ _ _ h => h) (Or.inl ⟨rfl, ?_⟩) (by assumption) ?_
    rotate_left
    · intro W hSw
      (try dsimp only at hSw)
      go_simp
      try with_reducible rfl
    try simp only [List.getElem_toArray, List.getElem_cons_zero, List.getElem_cons_succ, Act.put, List.setIfInBounds_toArray, List.set_cons_zero, List.set_cons_succ]
    refine wpAnyH_take (i := 5) (v := .agg (cellsB q)) rfl (by kernel_rfl) (by kernel_rfl) (by kernel_rfl) (fun _ _ _ h => h) (Or.inl ⟨rfl, ?_⟩) (by assumption) ?_
    · intro W hSw
      exact exec_load 48 (.tmp 7) rfl _ rfl _ hSw.2
    try simp only [List.getElem_toArray, List.getElem_cons_zero, List.getElem_cons_succ, Act.put, List.setIfInBounds_toArray, List.set_cons_zero, List.set_cons_succ]
    refine wpAnyH_take (i := 6) (v := ?_) rfl (by kernel_rfl) (by kernel_rfl) (by kernel_rfl) (fun _ _ _ h => h) (Or.inl ⟨rfl, ?_⟩) (by assumption) ?_
    rotate_left
    · intro W hSw
      (try dsimp only at hSw)
      go_simp
      try with_reducible rfl
    try simp only [List.getElem_toArray, List.getElem_cons_zero, List.getElem_cons_succ, Act.put, List.setIfInBounds_toArray, List.set_cons_zero, List.set_cons_succ]
    refine wpAnyH_ready (rs := [7]) (by kernel_rfl) (by simp) (AllReadyH.cons rfl (fun K hK => ?_) AllReadyH.nil)
    refine step_store_var rfl 48 (.tmp 50) (.tmp 49) rfl _ rfl _ rfl hst'.out ?_
    refine hK.out _ _ (hS1.out) (fun hHeld => ?_)
    clear hK
    try simp only [List.getElem_toArray, List.getElem_cons_zero, List.getElem_cons_succ, Act.put, List.setIfInBounds_toArray, List.set_cons_zero, List.set_cons_succ]
    refine wpAnyH_done (by kernel_rfl) ?_ _
    (try dsimp only [NoPanic])
    go_wp2_with fail
    refine hends.out.mono ?_
    rintro e w9 ⟨rfl, hR9, hk9⟩
    have hfin := Lib.hid (show ROpRes Fm Fr c ((s2.ends ek).1, (s2.ends ek).2.2) w (.returned (.int .i64 (s2.ends ek).1)) w9 from ⟨Fm, _, rfl, hR9, hk2.out.trans hk9 (fun _ hb => .inl hb), fun x hx => .inl hx⟩)
    clear hR9 hk9 hends hk2
    go_wp2_with fail
    go_ret
    exact hfin.out
end Go.Proofs.Ytlgjlhgdpiipbaa
/- The reference's chip behind a new row of pages; what its Erase makes, plainly. -/
namespace Go.Proofs.Ytlgjlhgdpiipbaa
open Go.RowKit
def RLay.setRows (L : RLay) (i g cap : Nat) (cur : Array Value) (v : Value) : RLay :=
  { L with barr := L.barr.setIfInBounds (i * 4 + 0) v, p := fun y => if y = i then g else L.p y, pcap := fun y => if y = i then cap else L.pcap y, parr := fun y => if y = i then cur else L.parr y }
theorem setPages_at (st : Chip) (i y : Nat) (f : Nat → List UInt8) : ((st.setPages i f).blk y).pages = (if y = i then f else (st.blk y).pages) ∧ ((st.setPages i f).blk y).look = (st.blk y).look := by
  unfold Chip.setPages Chip.setBlk
  dsimp only
  by_cases e : y = i
  · subst e; simp
  · simp [e]
theorem RefR.set_rows {W : World} {Fm Fr : Nat → Prop} {c : Nat} {st : Chip} {L : RLay} (h : RefR W Fm Fr c st L) {i : Nat} (hi : i < st.bn) (g cap : Nat) (cur : Array Value) (hb : Box W g 48 cur) (hgm : ¬ Fm g) (hgr : ¬ Fr g) (f : Nat → List UInt8) (hlen : ∀ j, j < st.pn → (f j).length = 288)
    (hat : ∀ j, j < st.pn → ∀ x u, (pgL (f j))[x]? = some u → cur[j * 288 + x]? = some u) (hcap : st.pn ≤ cap) :
    RefR (W.setCell ⟨L.ba, i * 4 + 0, none⟩ (.slice (some ⟨g, 0, none⟩) st.pn cap)) (fun b => Fm b ∨ b = g) Fr c (st.setPages i f) (L.setRows i g cap cur (.slice (some ⟨g, 0, none⟩) st.pn cap)) := by
  obtain ⟨v, hv⟩ : ∃ v, Value.slice (some ⟨g, 0, none⟩) st.pn cap = v := ⟨_, rfl⟩
  rw [hv]
  have hsz : (W.setCell ⟨L.ba, i * 4 + 0, none⟩ v).heap.size = W.heap.size := by simp [World.setCell]
  have hsame : Same Fr W (W.setCell ⟨L.ba, i * 4 + 0, none⟩ v) := ⟨fun b hb => Below.heap_setCell W ⟨L.ba, i * 4 + 0, none⟩ v b (fun e => by subst e; exact h.disj _ h.fb hb), by rw [hsz]; exact Nat.le_refl _⟩
  have hlk : ∀ y, ((st.setPages i f).blk y).look = (st.blk y).look := fun y => (setPages_at st i y f).2
  have hpg : ∀ y, ((st.setPages i f).blk y).pages = if y = i then f else (st.blk y).pages := fun y => (setPages_at st i y f).1
  have hnp : ∀ y, y < st.bn → L.p y ≠ g := fun y hy e => hgm (by rw [← e]; exact h.fp y hy)
  refine { chip := h.chip.far _ _ (fun e => (h.row.ne h.chip (by decide)) e), row := h.row.set _ _, rowAt := fun y hy z u hu => ?_, prow := fun y hy => ?_, prowAt := fun y hy j hj z u hu => ?_, len := fun y hy j hj => ?_, pinj := fun y hy y' hy' he => ?_, evs := h.evs.same hsame, cap := ⟨h.cap.1, fun y hy => ?_⟩, fc := .inl h.fc, fb := .inl h.fb, fp := fun y hy => ?_, disj := fun b hb hr => ?_, ltm := fun b hb' => ?_, ltr := fun b hb => by rw [hsz]; exact h.ltr b hb, bnd := h.bnd, opsb := h.opsb }
  · have hz := (List.getElem?_eq_some_iff.1 hu).1
    have hz4 : z < 4 := hz
    show (L.barr.setIfInBounds (i * 4 + 0) v)[y * 4 + z]? = some u
    by_cases e : y = i
    · subst e
      have hin := fun z (hz4 : z < 4) => (Array.getElem?_eq_some_iff.1 (h.rowAt y hy z _ (List.getElem?_eq_getElem (show z < (rblkL L st y).length from hz4)))).1
      by_cases e2 : z = 0
      · subst e2
        have : v = u := by
          have h1 : (rblkL (L.setRows y g cap cur v) (st.setPages y f) y)[0]? = some (.slice (some ⟨(if y = y then g else L.p y), 0, none⟩) st.pn (if y = y then cap else L.pcap y)) := rfl
          rw [h1, if_pos rfl, if_pos rfl, hv] at hu
          exact Option.some.inj hu
        subst this
        have := hin 0 (by decide)
        simp only [Nat.add_zero] at this ⊢
        simp [this]
      · rw [Array.getElem?_setIfInBounds_ne (by omega)]
        refine h.rowAt y hy z u ?_
        have : ∀ z, z ≠ 0 → (rblkL (L.setRows y g cap cur v) (st.setPages y f) y)[z]? = (rblkL L st y)[z]? := fun z hz => by
          unfold rblkL
          rw [hlk]
          match z, hz with
          | z + 1, _ => rfl
        rw [← this z e2]; exact hu
    · rw [Array.getElem?_setIfInBounds_ne (by omega)]
      refine h.rowAt y hy z u ?_
      have : rblkL (L.setRows i g cap cur v) (st.setPages i f) y = rblkL L st y := by
        unfold rblkL
        rw [hlk]
        show [Value.slice (some ⟨(if y = i then g else L.p y), 0, none⟩) st.pn (if y = i then cap else L.pcap y), _, _, _] = _
        rw [if_neg e, if_neg e]
      rw [← this]; exact hu
  · show Box _ (if y = i then g else L.p y) 48 (if y = i then cur else L.parr y)
    by_cases e : y = i
    · rw [if_pos e, if_pos e]; exact hb.far _ _ (h.row.ne hb (by decide))
    · rw [if_neg e, if_neg e]; exact (h.prow y hy).far _ _ (h.row.ne (h.prow y hy) (by decide))
  · rw [hpg] at hu
    show (if y = i then cur else L.parr y)[j * 288 + z]? = some u
    by_cases e : y = i
    · rw [if_pos e] at hu ⊢; exact hat j hj z u hu
    · rw [if_neg e] at hu ⊢; exact h.prowAt y hy j hj z u hu
  · rw [hpg]
    split
    · exact hlen j hj
    · exact h.len y hy j hj
  · have he : (if y = i then g else L.p y) = (if y' = i then g else L.p y') := he
    by_cases e : y = i
    · by_cases e' : y' = i
      · omega
      · rw [if_pos e, if_neg e'] at he; exact absurd he.symm (hnp y' hy')
    · by_cases e' : y' = i
      · rw [if_neg e, if_pos e'] at he; exact absurd he (hnp y hy)
      · rw [if_neg e, if_neg e'] at he; exact h.pinj y hy y' hy' he
  · show st.pn ≤ (if y = i then cap else L.pcap y)
    split
    · exact hcap
    · exact h.cap.2 y hy
  · show Fm (if y = i then g else L.p y) ∨ (if y = i then g else L.p y) = g
    by_cases e : y = i
    · rw [if_pos e]; exact .inr rfl
    · rw [if_neg e]; exact .inl (h.fp y hy)
  · rcases hb with hb | rfl
    · exact h.disj b hb hr
    · exact hgr hr
  · rw [hsz]
    rcases hb' with hb' | rfl
    · exact h.ltm b hb'
    · exact hb.lt
/-- How an operation ends, behind a change of what is known of a block. -/
theorem ends_setLook (st : Chip) (i : Nat) (k : Look) (kind : Int) : ((st.setLook i k).ends kind).1 = (st.ends kind).1 ∧ ((st.setLook i k).ends kind).2.2 = (st.ends kind).2.2.setLook i k := by
  unfold Chip.ends
  split
  · exact ⟨rfl, rfl⟩
  · split <;> exact ⟨rfl, rfl⟩
theorem ends_bad (st : Chip) (kind : Int) : (st.ends kind).2.1 = (kind == 1) ∧ (st.ends kind).2.2.blk = st.blk := by
  unfold Chip.ends
  split
  · rename_i h; subst h; exact ⟨rfl, rfl⟩
  · split
    · rename_i h; subst h; exact ⟨rfl, rfl⟩
    · rename_i h h'; exact ⟨by simpa using h', rfl⟩
/-- The reference sets the block's mark first, and ends then. -/
theorem judged_eq (st : Chip) (i : Nat) (kind : Int) : st.judged i kind = (((st.setLook i { (st.blk i).look with bad := kind == 1 }).ends kind).1, ((st.setLook i { (st.blk i).look with bad := kind == 1 }).ends kind).2.2) := by
  obtain ⟨h1, h2⟩ := ends_setLook st i { (st.blk i).look with bad := kind == 1 } kind
  obtain ⟨h3, h4⟩ := ends_bad st kind
  rw [h1, h2]
  unfold Chip.judged
  rw [h3, h4]
/-- Pages erased, so many. -/
def Chip.wipeTo (st : Chip) (i k : Nat) : Chip := st.setPages i (fun x => if x < k then rep 288 255 else (st.blk i).pages x)
theorem wipeTo_zero (st : Chip) (i : Nat) : st.wipeTo i 0 = st := by
  unfold Chip.wipeTo
  have : (fun x => if x < 0 then rep 288 255 else (st.blk i).pages x) = (st.blk i).pages := by funext x; rw [if_neg (by omega)]
  rw [this]
  exact setPages_self st i
theorem wipeTo_succ (st : Chip) (i k : Nat) : (st.wipeTo i k).setPage i k (rep 288 255) = st.wipeTo i (k + 1) := by
  unfold Chip.wipeTo Chip.setPage Chip.setPages Chip.setBlk
  dsimp only
  congr 1
  funext y
  by_cases e : y = i
  · subst e
    simp only [if_true]
    congr 1
    funext x
    by_cases h1 : x = k
    · subst h1; simp
    · simp only [if_neg h1]
      by_cases h2 : x < k
      · rw [if_pos h2, if_pos (by omega)]
      · rw [if_neg h2, if_neg (by omega)]
  · simp only [if_neg e]
theorem wipeTo_all (st : Chip) (i : Nat) : st.cleared i = (st.wipeTo i st.pn).setLook i { ((st.wipeTo i st.pn).blk i).look with next := 0 } := rfl
theorem can_erase {st : Chip} {n : Int} (h : ¬ st.can n 0 = 0) : st.erase n = (st.can n 0, st) := by
  by_cases h0 : st.asks n 0 = 0
  · rcases hb : (st.blk n.toNat).look.bad with _ | _
    · exact absurd (by unfold Chip.can; rw [if_neg (by simpa using h0), if_neg (by rw [hb]; decide)]) h
    · rw [can_bad h0 hb]
      unfold Chip.erase
      rw [if_neg (by simpa using h0), if_pos hb]
  · rw [can_asks h0]
    unfold Chip.erase
    rw [if_pos h0]
end Go.Proofs.Ytlgjlhgdpiipbaa
/- The reference's Erase under way. -/
namespace Go.Proofs.Ytlgjlhgdpiipbaa
open Go.RowKit
/-- The reference's Erase under way: the chip, its event in a box of the call's own, the mask. -/
structure EU (w : World) (Fm Fr : Nat → Prop) (c ba E : Nat) (ev : Array Value) (mv : Value) (em : List UInt8) (W : World) (s : Chip) (Fn : Nat → Prop) (L : RLay) : Prop where
  ref : RefR W Fn Fr c s L
  eba : L.ba = ba
  box : Box W E 67 ev
  fe : ¬ Fn E ∧ ¬ Fr E
  kept : Kept Fm w W
  fn : ∀ x, Fn x → Fm x ∨ w.heap.size ≤ x
  msk : ∀ W', Same Fr W W' → RdB W' mv em
section
variable {w : World} {Fm Fr : Nat → Prop} {c ba E : Nat} {ev : Array Value} {mv : Value} {em : List UInt8} {W W' : World} {s : Chip} {Fn : Nat → Prop} {L : RLay}
theorem EU.below (h : EU w Fm Fr c ba E ev mv em W s Fn L) (hb : Below W.heap.size W W') : EU w Fm Fr c ba E ev mv em W' s Fn L :=
  ⟨h.ref.below hb, h.eba, h.box.below hb, h.fe, h.kept.then hb, h.fn, fun V hV => h.msk V (Same.trans (R := Fr) ⟨fun b hf => hb.block b (h.ref.ltr b hf), hb.size⟩ hV)⟩
theorem EU.drew (h : EU w Fm Fr c ba E ev mv em W s Fn L) : EU w Fm Fr c ba E ev mv em W.drew s Fn L := h.below ((Below.refl _ _).drew)
theorem EU.bcell (h : EU w Fm Fr c ba E ev mv em W s Fn L) {i : Nat} (hi : i < s.bn) (x : Nat) (u : Value) (hu : (rblkL L s i)[x]? = some u) : W.cell? ⟨ba, i * 4 + x, none⟩ = some u := by
  rw [← h.eba]; exact h.ref.bcell hi x u hu
theorem EU.frozen (h : EU w Fm Fr c ba E ev mv em W s Fn L) (x : Nat) : W.frozen? ⟨ba, x, none⟩ = false := by
  rw [← h.eba]; exact h.ref.row.frozen _
theorem EU.ebne (h : EU w Fm Fr c ba E ev mv em W s Fn L) : ba ≠ E := fun e => h.fe.1 (by rw [← e, ← h.eba]; exact h.ref.fb)
theorem EU.set_look (h : EU w Fm Fr c ba E ev mv em W s Fn L) {i : Nat} (hi : i < s.bn) (x : Nat) (hx : x < 4) (v : Value) (k : Look) (hk : ∀ L, rblkL L (s.setLook i k) i = (rblkL L s i).set x v) :
    EU w Fm Fr c ba E ev mv em (W.setCell ⟨ba, i * 4 + x, none⟩ v) (s.setLook i k) Fn { L with barr := L.barr.setIfInBounds (i * 4 + x) v } := by
  obtain rfl := h.eba
  have hr := h.ref.set_look i hi x hx v k (hk L)
  have hs := h.ref.same_set L.ba (i * 4 + x) v h.ref.fb
  have hfb := h.ref.fb
  refine ⟨hr, rfl, h.box.far ⟨L.ba, i * 4 + x, none⟩ v h.ebne, h.fe, ?_, h.fn, fun V hV => h.msk V (Same.trans (R := Fr) hs hV)⟩
  exact h.kept.trans (Kept.of_set (F := Fn) L.ba (i * 4 + x) v hfb) h.fn
theorem EU.set_page (h : EU w Fm Fr c ba E ev mv em W s Fn L) {i : Nat} (hi : i < s.bn) {j : Nat} (hj : j < s.pn) (l : List UInt8) (hl : l.length = 288) :
    EU w Fm Fr c ba E ev mv em (W.setCells (L.p i) (j * 288) (l.map byteV)) (s.setPage i j l) Fn (L.setPage i j l) := by
  have hg := setCells_grown W (L.p i) (j * 288) (l.map byteV)
  have hp := h.ref.fp i hi
  refine ⟨h.ref.set_page hi hj l hl, h.eba, h.box.grown hg (by simpa using fun e => h.fe.1 (by rw [e]; exact hp)), h.fe, ?_, h.fn, fun V hV => h.msk V (Same.trans (R := Fr) (same_grown hg (h.ref.fr_ne hp)) hV)⟩
  exact h.kept.trans (Kept.of_grown (F := Fn) hg hp) h.fn
theorem EU.set_rows (h : EU w Fm Fr c ba E ev mv em W s Fn L) {i : Nat} (hi : i < s.bn) (g cap : Nat) (cur : Array Value) (hb : Box W g 48 cur) (hg : w.heap.size ≤ g) (hgE : g ≠ E) (hgm : ¬ Fn g) (hgr : ¬ Fr g) (f : Nat → List UInt8) (hlen : ∀ j, j < s.pn → (f j).length = 288)
    (hat : ∀ j, j < s.pn → ∀ x u, (pgL (f j))[x]? = some u → cur[j * 288 + x]? = some u) (hcap : s.pn ≤ cap) :
    EU w Fm Fr c ba E ev mv em (W.setCell ⟨ba, i * 4, none⟩ (.slice (some ⟨g, 0, none⟩) s.pn cap)) (s.setPages i f) (fun b => Fn b ∨ b = g) (L.setRows i g cap cur (.slice (some ⟨g, 0, none⟩) s.pn cap)) := by
  obtain rfl := h.eba
  have hr := h.ref.set_rows hi g cap cur hb hgm hgr f hlen hat hcap
  have hs := h.ref.same_set L.ba (i * 4 + 0) (.slice (some ⟨g, 0, none⟩) s.pn cap) h.ref.fb
  have hfb := h.ref.fb
  refine ⟨hr, rfl, h.box.far ⟨L.ba, i * 4 + 0, none⟩ _ h.ebne, ⟨fun e => ?_, h.fe.2⟩, ?_, fun x hx => ?_, fun V hV => h.msk V (Same.trans (R := Fr) hs hV)⟩
  · rcases e with e | e
    · exact h.fe.1 e
    · exact hgE e.symm
  · exact h.kept.trans (Kept.of_set (F := Fn) L.ba (i * 4 + 0) _ hfb) h.fn
  · rcases hx with hx | hx
    · exact h.fn x hx
    · subst hx; exact .inr hg
/-- The pages of a block, masked, laid in a row of their own. -/
theorem EU.masked (h : EU w Fm Fr c ba E ev mv em W s Fn L) {i : Nat} (hi : i < s.bn) (hm : em.length ≤ 1048576) :
    Calls Try.prog 59 #[.slice (some ⟨L.p i, 0, none⟩) s.pn (L.pcap i), mv] W fun e w' => ∃ va vn vc Fn' L', e = .returned (.slice va vn vc) ∧ EU w Fm Fr c ba E ev mv em w' s Fn L ∧ w'.frozen? ⟨ba, i * 4, none⟩ = false ∧ EU w Fm Fr c ba E ev mv em (w'.setCell ⟨ba, i * 4, none⟩ (.slice va vn vc)) (s.setPages i (s.laid i (mask (allOf (s.blk i).pages s.pn) em))) Fn' L' := by
  have hms := masked_any (s.blk i).pages s.pn em (L.p i) 0 (L.pcap i) mv W (h.ref.prow i hi).lt (fun j hj x y hu => by
    rw [Nat.zero_add]
    exact (h.ref.prow i hi).get _ _ (h.ref.prowAt i hi j hj x y hu)) (fun j hj => h.ref.len i hi j hj) (h.msk W (Same.refl _ _)) hm h.ref.bnd.2.2.1 h.ref.bnd.2.2.2
  refine hms.mono ?_
  rintro e w5 ⟨g, gc, rfl, hgo, hb5⟩
  have h5 := h.below hb5
  have hpn := h.ref.bnd
  obtain ⟨_, ⟨_, h0⟩ | ⟨g1, cap1, cur, hv, hg, hh, hc, hm1, hs, ht⟩⟩ := id hgo
  · omega
  cases hv
  have hb : Box w5 g 48 cur := hh
  have hgn : W.heap.size ≤ g := hg
  have hnew := h.ref.new hgn
  have hEl := h.box.lt
  have hkw := h.kept.size
  have hall : (mask (allOf (s.blk i).pages s.pn) em).length = s.pn * 288 := by rw [mask_len, allOf_len _ _ (fun j hj => h.ref.len i hi j hj)]
  have hla : ∀ j, j < s.pn → s.laid i (mask (allOf (s.blk i).pages s.pn) em) j = piece (mask (allOf (s.blk i).pages s.pn) em) j := fun j hj => by unfold Chip.laid; rw [if_pos hj]
  refine ⟨_, _, _, _, _, rfl, h5, h5.frozen _, h5.set_rows hi g gc cur hb (by omega) (by omega) hnew.1 hnew.2 (s.laid i (mask (allOf (s.blk i).pages s.pn) em)) (fun j hj => by rw [hla j hj]; exact piece_len _ j s.pn hall hj) (fun j hj x u hu => ?_) hc⟩
  rw [hla j hj] at hu
  have hx := (List.getElem?_eq_some_iff.1 hu).1
  rw [pgL_len] at hx
  have hfl := flat_at pgL_len ((List.range s.pn).map (piece (mask (allOf (s.blk i).pages s.pn) em))) j _ (by simp [hj]) x u hu
  rw [← ht] at hfl
  have hlt : j * 288 + x < s.pn * 288 := by
    have : (j + 1) * 288 ≤ s.pn * 288 := Nat.mul_le_mul_right _ (by omega)
    omega
  rw [List.getElem?_take_of_lt hlt] at hfl
  simpa using hfl
end
end Go.Proofs.Ytlgjlhgdpiipbaa
