import Derived.Test.YtlgjlhgdpiipbaaMab
import Derived.BigQuiet
import Derived.Deep.QuietTactic
/- A chip in memory behind a change of one of its parts. -/
namespace Go.Proofs.Ytlgjlhgdpiipbaa
open Go.RowKit
def Chip.setPage (st : Chip) (n j : Nat) (l : List UInt8) : Chip := st.setBlk n { st.blk n with pages := fun x => if x = j then l else (st.blk n).pages x }
def Chip.setLook (st : Chip) (n : Nat) (k : Look) : Chip := st.setBlk n { st.blk n with look := k }
theorem same_grown {R : Nat → Prop} {W W' : World} {b : Nat} (hg : W.grownBy W' (some b)) (hR : ∀ x, R x → x < W.heap.size ∧ x ≠ b) : Same R W W' :=
  ⟨fun x hx => hg.block x (hR x hx).1 (fun e => (hR x hx).2 (by cases e; rfl)), hg.size⟩
section
variable {W W' : World} {Fm Fr : Nat → Prop} {c : Nat} {st : Chip} {L : Lay}
theorem ChipR.fr_ne (h : ChipR W Fm Fr c st L) {b : Nat} (hb : Fm b) : ∀ x, Fr x → x < W.heap.size ∧ x ≠ b := fun x hx => ⟨h.ltr x hx, fun e => by subst e; exact h.disj x hb hx⟩
/-- The chip's own cells. -/
theorem ChipR.upd_chip (h : ChipR W Fm Fr c st L) (v : Value) (evs : List Ev) (ops : Int) (off : Bool) (hb : Box W' c 77 (chipA { L with ev := v } { st with evs := evs, ops := ops, off := off })) (hg : W.grownBy W' (some c))
    (hev : EvS W' Fr v evs) (ho : 0 ≤ ops ∧ ops ≤ 1000000) : ChipR W' Fm Fr c { st with evs := evs, ops := ops, off := off } { L with ev := v } where
  chip := hb
  row := h.row.grown hg (by simpa using (h.row.ne h.chip (by decide)))
  rowAt := h.rowAt
  blk i hi := (h.blk i hi).grown hg (by simpa using ((h.blk i hi).ne h.chip (by decide)))
  prow i hi := (h.prow i hi).grown hg (by simpa using ((h.prow i hi).ne h.chip (by decide)))
  prowAt := h.prowAt
  byt i hi j hj := (h.byt i hi j hj).grown hg (by simpa using ((h.byt i hi j hj).ne h.chip (by decide)))
  len := h.len
  kinj := h.kinj
  pinj := h.pinj
  qinj := h.qinj
  evs := hev
  fc := h.fc
  fk := h.fk
  fp := h.fp
  fq := h.fq
  fba := h.fba
  disj := h.disj
  ltm b hb := Nat.lt_of_lt_of_le (h.ltm b hb) hg.size
  ltr b hb := Nat.lt_of_lt_of_le (h.ltr b hb) hg.size
  bnd := h.bnd
  opsb := ho
/-- What is known of one block. -/
theorem ChipR.upd_look (h : ChipR W Fm Fr c st L) (n : Nat) (hn : n < st.bn) (k : Look) (hb : Box W' (L.k n) 84 (blkA L (st.setLook n k) n)) (hg : W.grownBy W' (some (L.k n))) : ChipR W' Fm Fr c (st.setLook n k) L where
  chip := h.chip.grown hg (by simpa using (h.chip.ne (h.blk n hn) (by decide)))
  row := h.row.grown hg (by simpa using (h.row.ne (h.blk n hn) (by decide)))
  rowAt := h.rowAt
  blk i hi := by
    by_cases e : i = n
    · subst e; exact hb
    · have h1 := (h.blk i hi).grown hg (by simpa using fun e2 => e (h.kinj i hi n hn e2))
      have : blkA L (st.setLook n k) i = blkA L st i := by unfold blkA Chip.setLook Chip.setBlk; simp [e]
      rw [this]; exact h1
  prow i hi := (h.prow i hi).grown hg (by simpa using ((h.prow i hi).ne (h.blk n hn) (by decide)))
  prowAt := h.prowAt
  byt i hi j hj := by
    have h1 := (h.byt i hi j hj).grown hg (by simpa using ((h.byt i hi j hj).ne (h.blk n hn) (by decide)))
    have : ((st.setLook n k).blk i).pages = (st.blk i).pages := by
      unfold Chip.setLook Chip.setBlk
      dsimp only
      split
      · rename_i e; subst e; rfl
      · rfl
    rw [this]; exact h1
  len i hi j hj := by
    have : ((st.setLook n k).blk i).pages = (st.blk i).pages := by
      unfold Chip.setLook Chip.setBlk
      dsimp only
      split
      · rename_i e; subst e; rfl
      · rfl
    rw [this]; exact h.len i hi j hj
  kinj := h.kinj
  pinj := h.pinj
  qinj := h.qinj
  evs := h.evs.same (same_grown hg (h.fr_ne (h.fk n hn)))
  fc := h.fc
  fk := h.fk
  fp := h.fp
  fq := h.fq
  fba := h.fba
  disj := h.disj
  ltm b hb := Nat.lt_of_lt_of_le (h.ltm b hb) hg.size
  ltr b hb := Nat.lt_of_lt_of_le (h.ltr b hb) hg.size
  bnd := h.bnd
  opsb := h.opsb
theorem setPage_pages (st : Chip) (n j i x : Nat) (l : List UInt8) : ((st.setPage n j l).blk i).pages x = if i = n ∧ x = j then l else (st.blk i).pages x := by
  unfold Chip.setPage Chip.setBlk
  dsimp only
  by_cases e : i = n
  · subst e
    rw [if_pos rfl]
    dsimp only
    by_cases e2 : x = j
    · rw [if_pos e2, if_pos ⟨rfl, e2⟩]
    · rw [if_neg e2, if_neg (fun h => e2 h.2)]
  · rw [if_neg e, if_neg (fun h => e h.1)]
theorem setPage_look (st : Chip) (n j i : Nat) (l : List UInt8) : ((st.setPage n j l).blk i).look = (st.blk i).look := by
  unfold Chip.setPage Chip.setBlk
  dsimp only
  split
  · rename_i e; subst e; rfl
  · rfl
theorem setLook_pages (st : Chip) (n i : Nat) (k : Look) : ((st.setLook n k).blk i).pages = (st.blk i).pages := by
  unfold Chip.setLook Chip.setBlk
  dsimp only
  split
  · rename_i e; subst e; rfl
  · rfl
theorem setLook_look (st : Chip) (n i : Nat) (k : Look) : ((st.setLook n k).blk i).look = if i = n then k else (st.blk i).look := by
  unfold Chip.setLook Chip.setBlk
  dsimp only
  split <;> rfl
/-- One page's bytes, in their place. -/
theorem ChipR.upd_bytes (h : ChipR W Fm Fr c st L) (n j : Nat) (hn : n < st.bn) (hj : j < st.pn) (l : List UInt8) (hl : l.length = 288) (hb : Box W' (L.q n j) 110 (cellsB l)) (hg : W.grownBy W' (some (L.q n j))) : ChipR W' Fm Fr c (st.setPage n j l) L where
  chip := h.chip.grown hg (by simpa using (h.chip.ne (h.byt n hn j hj) (by decide)))
  row := h.row.grown hg (by simpa using (h.row.ne (h.byt n hn j hj) (by decide)))
  rowAt := h.rowAt
  blk i hi := by
    have h1 := (h.blk i hi).grown hg (by simpa using ((h.blk i hi).ne (h.byt n hn j hj) (by decide)))
    have : blkA L (st.setPage n j l) i = blkA L st i := by unfold blkA; rw [setPage_look]; rfl
    rw [this]; exact h1
  prow i hi := (h.prow i hi).grown hg (by simpa using ((h.prow i hi).ne (h.byt n hn j hj) (by decide)))
  prowAt := h.prowAt
  byt i hi x hx := by
    rw [setPage_pages]
    by_cases e : i = n ∧ x = j
    · obtain ⟨rfl, rfl⟩ := e
      rw [if_pos ⟨rfl, rfl⟩]; exact hb
    · rw [if_neg e]
      exact (h.byt i hi x hx).grown hg (by simpa using fun e2 => e (h.qinj i hi x hx n hn j hj e2))
  len i hi x hx := by
    rw [setPage_pages]
    split
    · exact hl
    · exact h.len i hi x hx
  kinj := h.kinj
  pinj := h.pinj
  qinj := h.qinj
  evs := h.evs.same (same_grown hg (h.fr_ne (h.fq n hn j hj)))
  fc := h.fc
  fk := h.fk
  fp := h.fp
  fq := h.fq
  fba := h.fba
  disj := h.disj
  ltm b hb := Nat.lt_of_lt_of_le (h.ltm b hb) hg.size
  ltr b hb := Nat.lt_of_lt_of_le (h.ltr b hb) hg.size
  bnd := h.bnd
  opsb := h.opsb
/-- Where the parts lie behind a page's change. -/
def Lay.setPage (L : Lay) (n j b : Nat) : Lay := { L with parr := fun i => if i = n then (L.parr n).setIfInBounds j (ptr b) else L.parr i, q := fun i x => if i = n ∧ x = j then b else L.q i x }
/-- One page, in a block of its own. -/
theorem ChipR.upd_page (h : ChipR W Fm Fr c st L) (n j : Nat) (hn : n < st.bn) (hj : j < st.pn) (l : List UInt8) (hl : l.length = 288) (b : Nat) (hb : Box W b 110 (cellsB l)) (hbm : ¬ Fm b) (hbr : ¬ Fr b) :
    ChipR (W.setCell ⟨L.p n, j, none⟩ (ptr b)) (fun x => Fm x ∨ x = b) Fr c (st.setPage n j l) (L.setPage n j b) := by
  have hp := h.prow n hn
  have hsz : (W.setCell ⟨L.p n, j, none⟩ (ptr b)).heap.size = W.heap.size := by simp [World.setCell]
  have hfar : ∀ {x : Nat} {t : TypeId} {vs : Array Value}, Box W x t vs → x ≠ L.p n → Box (W.setCell ⟨L.p n, j, none⟩ (ptr b)) x t vs := fun hx hne => hx.far _ _ (fun e => hne e.symm)
  have hlk : ∀ i, ((st.setPage n j l).blk i).look = (st.blk i).look := fun i => setPage_look st n j i l
  have hsame : Same Fr W (W.setCell ⟨L.p n, j, none⟩ (ptr b)) := ⟨fun x hx => Below.heap_setCell W ⟨L.p n, j, none⟩ (ptr b) x (fun e => by subst e; exact h.disj _ (h.fp n hn) hx), by rw [hsz]; exact Nat.le_refl _⟩
  refine ⟨?_, ?_, h.rowAt, ?_, ?_, ?_, ?_, ?_, h.kinj, h.pinj, ?_, ?_, .inl h.fc, fun i hi => .inl (h.fk i hi), fun i hi => .inl (h.fp i hi), ?_, h.fba, ?_, ?_, ?_, h.bnd, h.opsb⟩
  · exact hfar h.chip (h.chip.ne hp (by decide))
  · exact hfar h.row (h.row.ne hp (by decide))
  · intro i hi
    have h1 := hfar (h.blk i hi) ((h.blk i hi).ne hp (by decide))
    have : blkA (L.setPage n j b) (st.setPage n j l) i = blkA L st i := by
      unfold blkA
      rw [hlk]
      have : ((L.setPage n j b).parr i).size = (L.parr i).size := by
        unfold Lay.setPage
        dsimp only
        split
        · rename_i e; subst e; simp
        · rfl
      rw [this]; rfl
    rw [this]; exact h1
  · intro i hi
    show Box _ (L.p i) 85 (if i = n then (L.parr n).setIfInBounds j (ptr b) else L.parr i)
    by_cases e : i = n
    · subst e; rw [if_pos rfl]; exact hp.set j (ptr b)
    · rw [if_neg e]
      exact hfar (h.prow i hi) (fun e2 => e (h.pinj i hi n hn e2))
  · intro i hi x hx
    show (if i = n then (L.parr n).setIfInBounds j (ptr b) else L.parr i)[x]? = some (ptr (if i = n ∧ x = j then b else L.q i x))
    by_cases e : i = n
    · subst e
      rw [if_pos rfl]
      by_cases e2 : x = j
      · subst e2
        rw [if_pos ⟨rfl, rfl⟩]
        have hlt := (Array.getElem?_eq_some_iff.1 (h.prowAt i hi x hx)).1
        simp [hlt]
      · rw [if_neg (fun h => e2 h.2), Array.getElem?_setIfInBounds_ne (fun e3 => e2 e3.symm)]
        exact h.prowAt i hi x hx
    · rw [if_neg e, if_neg (fun h => e h.1)]
      exact h.prowAt i hi x hx
  · intro i hi x hx
    rw [setPage_pages]
    show Box _ (if i = n ∧ x = j then b else L.q i x) 110 _
    by_cases e : i = n ∧ x = j
    · rw [if_pos e, if_pos e]
      exact hfar hb (hb.ne hp (by decide))
    · rw [if_neg e, if_neg e]
      exact hfar (h.byt i hi x hx) ((h.byt i hi x hx).ne hp (by decide))
  · intro i hi x hx
    rw [setPage_pages]
    split
    · exact hl
    · exact h.len i hi x hx
  · intro i hi x hx i' hi' x' hx'
    show (if i = n ∧ x = j then b else L.q i x) = (if i' = n ∧ x' = j then b else L.q i' x') → _
    by_cases e : i = n ∧ x = j
    · rw [if_pos e]
      by_cases e' : i' = n ∧ x' = j
      · intro _; exact ⟨e.1.trans e'.1.symm, e.2.trans e'.2.symm⟩
      · rw [if_neg e']
        intro e2
        exact absurd (e2 ▸ h.fq i' hi' x' hx') hbm
    · rw [if_neg e]
      by_cases e' : i' = n ∧ x' = j
      · rw [if_pos e']
        intro e2
        exact absurd (e2 ▸ h.fq i hi x hx) hbm
      · rw [if_neg e']
        exact h.qinj i hi x hx i' hi' x' hx'
  · exact h.evs.same hsame
  · intro i hi x hx
    show Fm (if i = n ∧ x = j then b else L.q i x) ∨ (if i = n ∧ x = j then b else L.q i x) = b
    by_cases e : i = n ∧ x = j
    · rw [if_pos e]; exact .inr rfl
    · rw [if_neg e]; exact .inl (h.fq i hi x hx)
  · rintro x (hx | rfl)
    · exact h.disj x hx
    · exact hbr
  · rintro x (hx | rfl)
    · rw [hsz]; exact h.ltm x hx
    · rw [hsz]; exact hb.lt
  · intro x hx
    rw [hsz]; exact h.ltr x hx
end
end Go.Proofs.Ytlgjlhgdpiipbaa
/- Restart, ends, next: the chip's own cells. -/
namespace Go.Proofs.Ytlgjlhgdpiipbaa
open Go.RowKit
def zeroEv : Ev := ⟨0, 0, []⟩
/-- The event of the next operation; an operation more. -/
def Chip.nextEv (st : Chip) : Ev × Chip :=
  match st.evs with
  | [] => (zeroEv, { st with ops := st.ops + 1 })
  | e :: r => if e.at_ = st.ops + 1 then (e, { st with evs := r, ops := st.ops + 1 }) else (zeroEv, { st with ops := st.ops + 1 })
theorem Chip.nextEv_nil {st : Chip} (h : st.evs = []) : st.nextEv = (zeroEv, { st with ops := st.ops + 1 }) := by unfold Chip.nextEv; rw [h]
theorem Chip.nextEv_no {st : Chip} {e : Ev} {r : List Ev} (h : st.evs = e :: r) (hn : e.at_ ≠ st.ops + 1) : st.nextEv = (zeroEv, { st with ops := st.ops + 1 }) := by unfold Chip.nextEv; rw [h]; simp only; rw [if_neg hn]
theorem Chip.nextEv_yes {st : Chip} {e : Ev} {r : List Ev} (h : st.evs = e :: r) (hn : e.at_ = st.ops + 1) : st.nextEv = (e, { st with evs := r, ops := st.ops + 1 }) := by unfold Chip.nextEv; rw [h]; simp only; rw [if_pos hn]
/-- An event as a value. -/
def EvVal (W : World) (R : Nat → Prop) (ev : Ev) (v : Value) : Prop := ∃ mv, v = .agg #[.int .i64 ev.at_, .int .i64 ev.kind, mv] ∧ ∀ W2, Same R W W2 → RdB W2 mv ev.mask
theorem evVal_zero (W : World) (R : Nat → Prop) : EvVal W R zeroEv (.agg #[.int .i64 0, .int .i64 0, .slice none 0 0]) := ⟨_, rfl, fun W2 _ => Rd.nil _ _⟩
theorem Kept.then {F : Nat → Prop} {A B C : World} (h : Kept F A B) (hb : Below B.heap.size B C) : Kept F A C := h.trans (Kept.of_below (F := F) hb) (fun _ hb => .inl hb)
theorem Kept.set_in {F : Nat → Prop} {A B : World} (h : Kept F A B) (b j : Nat) (v : Value) (hb : F b) : Kept F A (B.setCell ⟨b, j, none⟩ v) := h.trans (Kept.of_set b j v hb) (fun _ hb => .inl hb)
theorem Kept.set_new {F : Nat → Prop} {A B : World} (h : Kept F A B) (b j : Nat) (v : Value) (hb : A.heap.size ≤ b) : Kept F A (B.setCell ⟨b, j, none⟩ v) :=
  h.trans (Kept.of_set (F := fun x => x = b) b j v rfl) (fun x hx => .inr (by subst hx; exact hb))
section
variable {W W' : World} {Fm Fr : Nat → Prop} {c : Nat} {st : Chip} {L : Lay}
theorem ChipR.set_out (h : ChipR W Fm Fr c st L) (b j : Nat) (v : Value) (hb : ¬ Fm b ∧ ¬ Fr b) : ChipR (W.setCell ⟨b, j, none⟩ v) Fm Fr c st L :=
  h.same ⟨fun x hx => Below.heap_setCell W ⟨b, j, none⟩ v x (fun e => by subst e; rcases hx with hx | hx; exact hb.1 hx; exact hb.2 hx), by simp [World.setCell]⟩
theorem ChipR.new (h : ChipR W Fm Fr c st L) {b : Nat} (hb : W.heap.size ≤ b) : ¬ Fm b ∧ ¬ Fr b := ⟨fun hx => by have := h.ltm b hx; omega, fun hx => by have := h.ltr b hx; omega⟩
theorem grown_set1 (W : World) (c j : Nat) (v : Value) : W.grownBy (W.setCell ⟨c, j, none⟩ v) (some c) :=
  ⟨rfl, rfl, rfl, by simp [World.setCell], fun k _ hne => Below.heap_setCell W ⟨c, j, none⟩ v k (fun e => hne (by rw [e]))⟩
theorem ChipR.same_set (h : ChipR W Fm Fr c st L) (b j : Nat) (v : Value) (hb : Fm b) : Same Fr W (W.setCell ⟨b, j, none⟩ v) := same_grown (grown_set1 W b j v) (h.fr_ne hb)
theorem ChipR.set_ops (h : ChipR W Fm Fr c st L) (n : Int) (hn : 0 ≤ n ∧ n ≤ 1000000) : ChipR (W.setCell ⟨c, 4, none⟩ (.int .i64 n)) Fm Fr c { st with ops := n } L :=
  h.upd_chip (W' := W.setCell ⟨c, 4, none⟩ (.int .i64 n)) L.ev st.evs n st.off (h.chip.set 4 (.int .i64 n)) (grown_set1 W c 4 _) (h.evs.same (h.same_set c 4 _ h.fc)) hn
theorem ChipR.set_off (h : ChipR W Fm Fr c st L) (o : Bool) : ChipR (W.setCell ⟨c, 5, none⟩ (.bool o)) Fm Fr c { st with off := o } L :=
  h.upd_chip (W' := W.setCell ⟨c, 5, none⟩ (.bool o)) L.ev st.evs st.ops o (h.chip.set 5 (.bool o)) (grown_set1 W c 5 _) (h.evs.same (h.same_set c 5 _ h.fc)) h.opsb
theorem ChipR.set_evs (h : ChipR W Fm Fr c st L) (v : Value) (evs : List Ev) (hv : EvS W Fr v evs) : ChipR (W.setCell ⟨c, 3, none⟩ v) Fm Fr c { st with evs := evs } { L with ev := v } :=
  h.upd_chip (W' := W.setCell ⟨c, 3, none⟩ v) v evs st.ops st.off (h.chip.set 3 v) (grown_set1 W c 3 _) (hv.same (h.same_set c 3 _ h.fc)) h.opsb
end
set_option maxRecDepth 100000 in
set_option maxHeartbeats 4000000 in
theorem restart_any {Fm Fr : Nat → Prop} {c : Nat} {st : Chip} {L : Lay} {w : World} (h : ChipR w Fm Fr c st L) : Calls Try.prog 24 #[.pointer (some ⟨c, 0, none⟩)] w fun e w' => e = .returned (.int .i64 0) ∧ ChipR w' Fm Fr c { st with off := false } L ∧ Kept Fm w w' := by
  have hm := Lib.hid (made_any h)
  have h5 := h.c5
  have f5 := h.chip.frozen 5
  have hr := Lib.hid (h.set_off false)
  have hk := Lib.hid (Kept.of_set (W := w) c 5 (.bool false) h.fc)
  clear h
  go_enter Try.func24, Try.ntmps24
  go_wp2_with (go_at_call 36; (with_reducible refine hm.out.mono ?_); rintro e w' ⟨rfl, hw⟩; obtain rfl := hw.symm)
  go_ret
  exact ⟨rfl, hr.out, hk.out⟩
/-- How an operation ends: its answer, whether the block is bad by it. -/
def Chip.ends (st : Chip) (kind : Int) : Int × Bool × Chip :=
  if kind = 2 then (8, false, { st with off := true }) else if kind = 1 then (25, true, st) else (0, false, st)
set_option maxRecDepth 100000 in
set_option maxHeartbeats 4000000 in
theorem ends_any {Fm Fr : Nat → Prop} {c : Nat} {st : Chip} {L : Lay} {w : World} (h : ChipR w Fm Fr c st L) (a kind : Int) (mv : Value) : Calls Try.prog 49 #[.pointer (some ⟨c, 0, none⟩), .agg #[.int .i64 a, .int .i64 kind, mv]] w fun e w' => e = .returned (.tuple #[.int .i64 (st.ends kind).1, .bool (st.ends kind).2.1]) ∧ ChipR w' Fm Fr c (st.ends kind).2.2 L ∧ Kept Fm w w' := by
  have hb := (Below.refl w.heap.size w).alloc (Nat.le_refl _) (.cells #[.int .i64 a, .int .i64 kind, mv] 67)
  have h' := h.below hb
  have hk0 : Kept Fm w _ := Kept.of_below hb
  have bx := Box.new w 67 #[.int .i64 a, .int .i64 kind, mv]
  obtain ⟨W0, hW0⟩ : ∃ W0, w.alloc (.cells #[.int .i64 a, .int .i64 kind, mv] 67) = W0 := ⟨_, rfl⟩
  rw [hW0] at h' hk0 bx
  have d1 := bx.get 1 _ rfl
  have h5 := h'.c5
  have f5 := h'.chip.frozen 5
  by_cases h2 : kind = 2
  · have he : st.ends kind = (8, false, { st with off := true }) := if_pos h2
    rw [he]
    have z : (kind == 2) = true := by simpa using h2
    have hr := Lib.hid (h'.set_off true)
    have hk := Lib.hid (hk0.trans (Kept.of_set (W := W0) c 5 (.bool true) h'.fc) (fun b hb => .inl hb))
    clear h h' hk0 he h2 bx hb
    go_enter Try.func49, Try.ntmps49
    go_wp2_with fail
    go_ret2
    exact ⟨rfl, hr.out, hk.out⟩
  by_cases h1 : kind = 1
  · have he : st.ends kind = (25, true, st) := by unfold Chip.ends; rw [if_neg h2, if_pos h1]
    rw [he]
    have z : (kind == 2) = false := by simpa using h2
    have z1 : (kind == 1) = true := by simpa using h1
    replace h' := Lib.hid h'
    replace hk0 := Lib.hid hk0
    clear h he h2 h1 bx hb
    go_enter Try.func49, Try.ntmps49
    go_wp2_with fail
    go_ret2
    exact ⟨rfl, h'.out, hk0.out⟩
  · have he : st.ends kind = (0, false, st) := by unfold Chip.ends; rw [if_neg h2, if_neg h1]
    rw [he]
    have z : (kind == 2) = false := by simpa using h2
    have z1 : (kind == 1) = false := by simpa using h1
    replace h' := Lib.hid h'
    replace hk0 := Lib.hid hk0
    clear h he h2 h1 bx hb
    go_enter Try.func49, Try.ntmps49
    go_wp2_with fail
    go_ret2
    exact ⟨rfl, h'.out, hk0.out⟩
set_option maxRecDepth 100000 in
theorem res45 {W : World} {b : Nat} {x y : Int} {mv : Value} (h : Box W b 67 #[.int .i64 x, .int .i64 y, mv]) {tmps : Array Value} (h2 : tmps.getD 2 undef = .pointer (some ⟨b, 0, none⟩)) :
    (results Try.f45 tmps).run Try.prog W = .ok (.agg #[.int .i64 x, .int .i64 y, mv]) W := by
  have d0 := h.get 0 _ rfl
  have d1 := h.get 1 _ rfl
  have d2 := h.get 2 _ rfl
  simp at h2
  simp [results, Try.results45, go_sem, h2, d0, d1, d2]
theorem evs_tail {W : World} {R : Nat → Prop} {eb eo cap : Nat} {e : Ev} {r : List Ev} (h : EvS W R (.slice (some ⟨eb, eo, none⟩) (r.length + 1) cap) (e :: r)) (hcap : r.length + 1 ≤ cap) :
    ∃ S, (∀ W', (Instr.slice 25 (.slice (some ⟨eb, eo, none⟩) (r.length + 1) cap) (some (.int .i64 1)) none none).run Try.prog W' = .ok S W') ∧ EvS W R S r := by
  have hrun := fun W => run_slice_l (P := Try.prog) W 25 (some ⟨eb, eo, none⟩) (r.length + 1) cap (by kernel_rfl) .i64 1 (by omega) (by omega)
  by_cases hc1 : cap = 1
  · have hr0 : r = [] := List.eq_nil_of_length_eq_zero (by omega)
    refine ⟨.slice (some ⟨eb, eo, none⟩) 0 0, fun W => ?_, by rw [hr0]; exact EvS.nil _ _ _ _⟩
    rw [hrun W, show (Go.sizeOf (Try.prog.elem 25)).run Try.prog W = .ok 3 W from by kernel_rfl]
    subst hc1
    simp [Result.andThen, sliced, hr0]
  · refine ⟨_, fun W => ?_, h.tail hc1⟩
    rw [hrun W, show (Go.sizeOf (Try.prog.elem 25)).run Try.prog W = .ok 3 W from by kernel_rfl]
    have : ¬ (1 = cap) := fun e => hc1 e.symm
    simp [Result.andThen, sliced, hc1, Addr.add]
/-- What next leaves. -/
def NextRes (Fm Fr : Nat → Prop) (c : Nat) (N : Ev × Chip) (L : Lay) (w : World) (e : Ending) (w' : World) : Prop :=
  ∃ v ev', e = .returned v ∧ EvVal w' Fr N.1 v ∧ ChipR w' Fm Fr c N.2 { L with ev := ev' } ∧ Kept Fm w w'
set_option maxRecDepth 100000 in
set_option maxHeartbeats 4000000 in
theorem next_any {Fm Fr : Nat → Prop} {c : Nat} {st : Chip} {L : Lay} {w : World} (h : ChipR w Fm Fr c st L) (ho : st.ops < 1000000) : Calls Try.prog 45 #[.pointer (some ⟨c, 0, none⟩)] w (NextRes Fm Fr c st.nextEv L w) := by
  have hb := (Below.refl w.heap.size w).alloc (Nat.le_refl _) (.cells #[.int .i64 0, .int .i64 0, .slice none 0 0] 67)
  have h' := h.below hb
  have hcl := h.chip.lt
  have hout := h.new (Nat.le_refl w.heap.size)
  have hk0 : Kept Fm w _ := Kept.of_below hb
  have bx := Box.new w 67 #[.int .i64 0, .int .i64 0, .slice none 0 0]
  obtain ⟨W0, hW0⟩ : ∃ W0, w.alloc (.cells #[.int .i64 0, .int .i64 0, .slice none 0 0] 67) = W0 := ⟨_, rfl⟩
  rw [hW0] at h' hk0 bx
  have h4 := h'.c4
  have f4 := h'.chip.frozen 4
  have hob := h'.opsb
  have h1 := h'.set_ops (st.ops + 1) (by omega)
  have hk1 := hk0.trans (Kept.of_set (W := W0) c 4 (.int .i64 (st.ops + 1)) h'.fc) (fun b hb => .inl hb)
  have bx1 := bx.far ⟨c, 4, none⟩ (.int .i64 (st.ops + 1)) (by show c ≠ w.heap.size; omega)
  obtain ⟨W1, hW1⟩ : ∃ W1, W0.setCell ⟨c, 4, none⟩ (.int .i64 (st.ops + 1)) = W1 := ⟨_, rfl⟩
  rw [hW1] at h1 hk1 bx1
  have e3 := h1.c3
  have e4 := h1.c4
  have hes := h1.evs
  dsimp only at e3 e4 hes
  have hnil := @Chip.nextEv_nil st
  have hno := @Chip.nextEv_no st
  have hyes := @Chip.nextEv_yes st
  obtain ⟨N, hN⟩ : ∃ N, st.nextEv = N := ⟨_, rfl⟩
  rw [hN] at hnil hno hyes ⊢
  clear hN
  obtain ⟨es, hese⟩ : ∃ es, st.evs = es := ⟨_, rfl⟩
  rw [hese] at hes hnil hno hyes
  have hwr := show IntKind.i64.wrap (st.ops + 1) = st.ops + 1 by rw [IntKind.wrap_i64]; omega
  replace h1 := Lib.hid h1
  replace hk1 := Lib.hid hk1
  clear h h' hk0 bx hb
  go_enter Try.func45, Try.ntmps45
  go_upto_region 2 with fail
  clear hW1 hwr h4 f4 hW0
  rcases es with _ | ⟨e, r⟩
  · obtain ⟨a, cap, hv, _⟩ := hes
    rw [hv] at e3
    simp only [List.length_nil] at e3
    obtain rfl := hnil rfl
    clear hnil hno hyes hv
    go_quiet (fail)
    have hbl := below_drewN W1 nq
    have h2 := h1.out.below hbl
    have hk2 := hk1.out.then hbl
    have b0 := bx1.drewN nq
    obtain ⟨W2, hW2⟩ : ∃ W2, W1.drewN nq = W2 := ⟨_, rfl⟩
    rw [hW2] at h2 hk2 b0 ⊢
    clear hbl hW2 e3 e4 bx1 h1 hk1
    have x0 := b0.get 0 _ rfl
    have x1 := b0.get 1 _ rfl
    have x2 := b0.get 2 _ rfl
    have g0 := b0.frozen 0
    have g1 := b0.frozen 1
    have g2 := b0.frozen 2
    have h9 := Lib.hid (((h2.set_out w.heap.size 0 (.int .i64 0) hout).set_out w.heap.size 1 (.int .i64 0) hout).set_out w.heap.size 2 (.slice none 0 0) hout)
    have hk9 := Lib.hid (((hk2.set_new w.heap.size 0 (.int .i64 0) (Nat.le_refl _)).set_new w.heap.size 1 (.int .i64 0) (Nat.le_refl _)).set_new w.heap.size 2 (.slice none 0 0) (Nat.le_refl _))
    have b9 := Lib.hid (((b0.set 0 (.int .i64 0)).set 1 (.int .i64 0)).set 2 (.slice none 0 0))
    clear h2 hk2 b0
    go_wp2_with fail
    exact bodyPost_ret (res45 b9.out rfl) rfl ⟨_, L.ev, rfl, evVal_zero _ _, by have := h9.out; rw [hese] at this; exact this, hk9.out⟩
  · obtain ⟨a, cap, hv, hcap, hat⟩ := hes
    have hes' : EvS W1 Fr L.ev (e :: r) := ⟨a, cap, hv, hcap, hat⟩
    obtain ⟨eb, eo, mv, rfl, heb, hRb, m0, m1, m2, hmv⟩ := hat 0 e rfl
    obtain ⟨ma, mc, hmve⟩ := (hmv W1 (Same.refl _ _)).len
    subst hmve
    rw [hv] at e3 hes'
    simp only [List.length_cons] at e3 hes' hcap
    simp only [Nat.zero_mul, Nat.add_zero] at m0 m1 m2
    clear hat
    have hI : (0 : Int) < (r.length : Int) + 1 := by omega
    by_cases hat : e.at_ = st.ops + 1
    case neg =>
      have hb1 : (e.at_ != st.ops + 1) = true := by simpa using hat
      obtain rfl := hno rfl hat
      clear hnil hno hyes hv hes' hmv hat
      go_quiet (fail)
      have hbl := below_drewN W1 nq
      have h2 := h1.out.below hbl
      have hk2 := hk1.out.then hbl
      have b0 := bx1.drewN nq
      obtain ⟨W2, hW2⟩ : ∃ W2, W1.drewN nq = W2 := ⟨_, rfl⟩
      rw [hW2] at h2 hk2 b0 ⊢
      clear hbl hW2 e3 e4 bx1 h1 hk1 m0 m1 m2
      have x0 := b0.get 0 _ rfl
      have x1 := b0.get 1 _ rfl
      have x2 := b0.get 2 _ rfl
      have g0 := b0.frozen 0
      have g1 := b0.frozen 1
      have g2 := b0.frozen 2
      have h9 := Lib.hid (((h2.set_out w.heap.size 0 (.int .i64 0) hout).set_out w.heap.size 1 (.int .i64 0) hout).set_out w.heap.size 2 (.slice none 0 0) hout)
      have hk9 := Lib.hid (((hk2.set_new w.heap.size 0 (.int .i64 0) (Nat.le_refl _)).set_new w.heap.size 1 (.int .i64 0) (Nat.le_refl _)).set_new w.heap.size 2 (.slice none 0 0) (Nat.le_refl _))
      have b9 := Lib.hid (((b0.set 0 (.int .i64 0)).set 1 (.int .i64 0)).set 2 (.slice none 0 0))
      clear h2 hk2 b0
      go_wp2_with fail
      exact bodyPost_ret (res45 b9.out rfl) rfl ⟨_, L.ev, rfl, evVal_zero _ _, by have := h9.out; rw [hese] at this; exact this, hk9.out⟩
    case pos =>
      have hb1 : (e.at_ != st.ops + 1) = false := by simpa using hat
      obtain rfl := hyes rfl hat
      clear hnil hno hyes hat
      replace hv := Lib.hid hv
      obtain ⟨S, hS, hSe⟩ := evs_tail hes' (by omega)
      obtain ⟨sa, sc, hSf⟩ : ∃ sa sc, S = .slice sa r.length sc := by obtain ⟨a, c, h, _⟩ := hSe; exact ⟨a, c, h⟩
      subst hSf
      go_quiet (fail)
      have hbl := below_drewN W1 nq
      have h2 := h1.out.below hbl
      have hk2 := hk1.out.then hbl
      have b0 := bx1.drewN nq
      have hsm : Same Fr W1 (W1.drewN nq) := ⟨fun x hx => hbl.block x (h1.out.ltr x hx), hbl.size⟩
      have hmv2 : ∀ W2, Same Fr (W1.drewN nq) W2 → RdB W2 (.slice ma e.mask.length mc) e.mask := fun W2 h => hmv W2 (hsm.trans h)
      have hS2 := hSe.same hsm
      have n0 : (W1.drewN nq).cell? ⟨eb, eo, none⟩ = _ := m0
      have n1 : (W1.drewN nq).cell? ⟨eb, eo + 1, none⟩ = _ := m1
      have n2 : (W1.drewN nq).cell? ⟨eb, eo + 2, none⟩ = _ := m2
      obtain ⟨W2, hW2⟩ : ∃ W2, W1.drewN nq = W2 := ⟨_, rfl⟩
      rw [hW2] at h2 hk2 b0 hmv2 hS2 n0 n1 n2 ⊢
      clear hbl hW2 e3 e4 bx1 h1 hk1 m0 m1 m2 hes' hmv hsm hSe heb
      have k3 := h2.c3
      (try dsimp only at k3)
      rw [hv.out] at k3
      have hba := (Below.refl W2.heap.size W2).alloc (Nat.le_refl _) (.cells #[.int .i64 e.at_, .int .i64 e.kind, (.slice ma e.mask.length mc)] 67)
      have h3 := h2.below hba
      have hk3 := hk2.then hba
      have b3 := b0.below hba
      have x3 := Box.new W2 67 #[.int .i64 e.at_, .int .i64 e.kind, (.slice ma e.mask.length mc)]
      have hsm2 : Same Fr W2 (W2.alloc (.cells #[.int .i64 e.at_, .int .i64 e.kind, (.slice ma e.mask.length mc)] 67)) := ⟨fun x hx => hba.block x (h2.ltr x hx), hba.size⟩
      have hS3 := hS2.same hsm2
      have hW2s := b0.lt
      obtain ⟨W3, hW3⟩ : ∃ W3, W2.alloc (.cells #[.int .i64 e.at_, .int .i64 e.kind, (.slice ma e.mask.length mc)] 67) = W3 := ⟨_, rfl⟩
      rw [hW3] at h3 hk3 b3 x3 hsm2 hS3
      have j3 := h3.c3
      (try dsimp only at j3)
      rw [hv.out] at j3
      have jf := h3.chip.frozen 3
      have h4 := h3.set_evs (.slice sa r.length sc) r hS3
      have hk4 := hk3.set_in c 3 (.slice sa r.length sc) h3.fc
      have b4 := b3.far ⟨c, 3, none⟩ (.slice sa r.length sc) (by show c ≠ w.heap.size; omega)
      have x4 := x3.far ⟨c, 3, none⟩ (.slice sa r.length sc) (by show c ≠ W2.heap.size; omega)
      have hsm4 := hsm2.trans (h3.same_set c 3 (.slice sa r.length sc) h3.fc)
      obtain ⟨W4, hW4⟩ : ∃ W4, W3.setCell ⟨c, 3, none⟩ (.slice sa r.length sc) = W4 := ⟨_, rfl⟩
      rw [hW4] at h4 hk4 b4 x4 hsm4
      have y0 := x4.get 0 _ rfl
      have y1 := x4.get 1 _ rfl
      have y2 := x4.get 2 _ rfl
      have z0 := b4.get 0 _ rfl
      have z1 := b4.get 1 _ rfl
      have z2 := b4.get 2 _ rfl
      have g0 := b4.frozen 0
      have g1 := b4.frozen 1
      have g2 := b4.frozen 2
      have h9 := Lib.hid (((h4.set_out w.heap.size 0 (.int .i64 e.at_) hout).set_out w.heap.size 1 (.int .i64 e.kind) hout).set_out w.heap.size 2 (.slice ma e.mask.length mc) hout)
      have hk9 := Lib.hid (((hk4.set_new w.heap.size 0 (.int .i64 e.at_) (Nat.le_refl _)).set_new w.heap.size 1 (.int .i64 e.kind) (Nat.le_refl _)).set_new w.heap.size 2 (.slice ma e.mask.length mc) (Nat.le_refl _))
      have b9 := Lib.hid (((b4.set 0 (.int .i64 e.at_)).set 1 (.int .i64 e.kind)).set 2 (.slice ma e.mask.length mc))
      have hsm9 : Same Fr W2 (((W4.setCell ⟨w.heap.size, 0, none⟩ (.int .i64 e.at_)).setCell ⟨w.heap.size, 1, none⟩ (.int .i64 e.kind)).setCell ⟨w.heap.size, 2, none⟩ (.slice ma e.mask.length mc)) := ⟨fun x hx => by
        have hne : x ≠ w.heap.size := fun e => by subst e; exact hout.2 hx
        rw [Below.heap_setCell _ _ _ x hne, Below.heap_setCell _ _ _ x hne, Below.heap_setCell _ _ _ x hne]
        exact hsm4.1 x hx, by simp [World.setCell]; exact hsm4.2⟩
      have hmv9 := Lib.hid (fun W h => hmv2 W (hsm9.trans h))
      clear h2 h3 h4 hk2 hk3 hk4 b0 b3 b4 x3 x4 hba hS2 hS3 hsm2 hsm4 hsm9 hmv2
      go_wp2_with fail
      exact bodyPost_ret (res45 b9.out rfl) rfl ⟨_, (.slice sa r.length sc), rfl, ⟨(.slice ma e.mask.length mc), rfl, hmv9.out⟩, h9.out, hk9.out⟩
end Go.Proofs.Ytlgjlhgdpiipbaa
/- A block's bytes: all of them, and laid anew. -/
namespace Go.Proofs.Ytlgjlhgdpiipbaa
open Go.RowKit
def allOf (f : Nat → List UInt8) (m : Nat) : List UInt8 := (List.range m).flatMap f
theorem allOf_succ (f : Nat → List UInt8) (m : Nat) : allOf f (m + 1) = allOf f m ++ f m := by unfold allOf; rw [List.range_succ, List.flatMap_append]; simp
theorem allOf_len (f : Nat → List UInt8) : ∀ m, (∀ j, j < m → (f j).length = 288) → (allOf f m).length = m * 288
  | 0, _ => rfl
  | m + 1, h => by rw [allOf_succ, List.length_append, allOf_len f m (fun j hj => h j (by omega)), h m (by omega)]; omega
def piece (b : List UInt8) (j : Nat) : List UInt8 := (b.drop (j * 288)).take 288
theorem piece_len (b : List UInt8) (j m : Nat) (hb : b.length = m * 288) (hj : j < m) : (piece b j).length = 288 := by unfold piece; rw [List.length_take, List.length_drop]; omega
theorem piece_get (b : List UInt8) (j x : Nat) (h : x < (piece b j).length) (h2 : j * 288 + x < b.length) : (piece b j)[x] = b[j * 288 + x] := by
  have : (piece b j)[x]? = b[j * 288 + x]? := by
    have hx : x < 288 := by unfold piece at h; rw [List.length_take] at h; omega
    unfold piece
    rw [List.getElem?_take_of_lt hx, List.getElem?_drop]
  rw [List.getElem?_eq_getElem h, List.getElem?_eq_getElem h2] at this
  exact Option.some.inj this
/-- The pages behind lay. -/
def Chip.laid (st : Chip) (n : Nat) (b : List UInt8) : Nat → List UInt8 := fun x => if x < st.pn then piece b x else (st.blk n).pages x
def Chip.setPages (st : Chip) (n : Nat) (f : Nat → List UInt8) : Chip := st.setBlk n { st.blk n with pages := f }
theorem setPages_self (st : Chip) (n : Nat) : st.setPages n (st.blk n).pages = st := by
  unfold Chip.setPages Chip.setBlk
  have : (fun i => if i = n then st.blk n else st.blk i) = st.blk := by
    funext i
    split
    · rename_i e; rw [e]
    · rfl
  show { st with blk := fun i => if i = n then st.blk n else st.blk i } = st
  rw [this]
theorem setPages_page (st : Chip) (n j : Nat) (f : Nat → List UInt8) (l : List UInt8) : (st.setPages n f).setPage n j l = st.setPages n (fun x => if x = j then l else f x) := by
  unfold Chip.setPage Chip.setPages Chip.setBlk
  dsimp only
  rw [if_pos rfl]
  congr 1
  funext i
  split <;> rfl
theorem laid_step (b : List UInt8) (f : Nat → List UInt8) (j : Nat) : (fun x => if x = j then piece b j else (fun x => if x < j then piece b x else f x) x) = fun x => if x < j + 1 then piece b x else f x := by
  funext x
  by_cases e : x = j
  · subst e; simp
  · simp only [if_neg e]
    by_cases e2 : x < j
    · rw [if_pos e2, if_pos (by omega)]
    · rw [if_neg e2, if_neg (by omega)]
set_option maxRecDepth 100000 in
set_option maxHeartbeats 4000000 in
theorem all_any {Fm Fr : Nat → Prop} {c : Nat} {st : Chip} {L : Lay} {w : World} (h : ChipR w Fm Fr c st L) (n : Nat) (hn : n < st.bn) : Calls Try.prog 48 #[.pointer (some ⟨L.k n, 0, none⟩)] w fun e w' => ∃ v, e = .returned v ∧ w'.ownsRow w.heap.size 5 1 v (st.pn * 288) ((allOf (st.blk n).pages st.pn).map byteV) ∧ Below w.heap.size w w' := by
  obtain ⟨i0, hi0, hz0, hz1, hz2⟩ := info_parts infoByte
  have b0 := h.b0 hn
  have hbnd := h.bnd
  have hw := Lib.hid (fun (W : World) (hW : Below w.heap.size w W) => h.below hW)
  have hlen := h.len n hn
  clear h
  obtain ⟨f, hf⟩ : ∃ f, (st.blk n).pages = f := ⟨_, rfl⟩
  rw [hf] at hlen ⊢
  replace hf := Lib.hid hf
  go_enter Try.func48, Try.ntmps48
  go_wp2_with fail
  go_loopw [3, 11] (fun o i wr => ∃ j : Nat, j ≤ st.pn ∧ i = .int .i64 j ∧ wr.ownsRow w.heap.size 5 1 o (j * 288) ((allOf f j).map byteV) ∧ Below w.heap.size w wr) (fun _ i _ => st.pn - (intOf i).toNat)
  case atStart => exact ⟨0, by omega, rfl, by rw [Nat.zero_mul]; exact World.ownsRow_nil _ _ _ _, Below.refl _ _⟩
  case round =>
    clear b0
    obtain ⟨j, hj, rfl, hown, hB⟩ := hrel
    by_cases hlt : j < st.pn
    · have hc := hw.out wr hB
      have p0 := hc.pp hn hlt
      have hq := hc.byt n hn j hlt
      have hl := hlen j hlt
      rw [hf.out] at hq
      have hsn := allOf_succ f j
      obtain ⟨l, hle⟩ : ∃ l, f j = l := ⟨_, rfl⟩
      rw [hle] at hq hl hsn
      clear hc hle
      have hI0 : (0 : Int) ≤ (j : Int) := by omega
      have hI1 : (j : Int) < (st.pn : Int) := by omega
      have hsz := hB.size
      have hnews : ∀ x u, (l.map byteV)[x]? = some u → wr.cell? ((⟨L.q n j, 0, none⟩ : Addr).add x) = some u := fun x u hu => by
        have hadd : (⟨L.q n j, 0, none⟩ : Addr).add x = ⟨L.q n j, x, none⟩ := by unfold Addr.add; split <;> simp_all
        rw [List.getElem?_map] at hu
        obtain ⟨y, hy, rfl⟩ := Option.map_eq_some_iff.1 hu
        obtain ⟨hx, rfl⟩ := List.getElem?_eq_some_iff.1 hy
        rw [hadd]
        exact hq.get x _ (cellsB_get l x hx)
      have hone : ∀ u ∈ l.map byteV, u.oneCell' = true := fun u hu => by obtain ⟨y, _, rfl⟩ := List.mem_map.1 hu; rfl
      have hln : (l.map byteV).length = 288 * 1 := by rw [List.length_map, hl]
      replace hq := Lib.hid hq
      go_wp2_with (at_builtin; refine wpList_append_own _ rfl _ _ 65 rfl w.heap.size 5 i0 (.int .u8 0) 1 1 Try.underlying65 hi0 hz0 hz1 hz2 rfl (by decide) _ _ _ rfl hown ⟨L.q n j, 0, none⟩ 288 288 (l.map byteV) rfl hln hnews hone ?c3 ?c4 ?c5 ?_)
      case c3 => unfold maxLen; omega
      case c4 => omega
      case c5 => omega
      intro v' w1 hown1 hgrow _
      go_wp2_with fail
      go_roundw
      case rel => exact ⟨j + 1, by omega, by go_num, by rw [hsn, List.map_append, Nat.succ_mul]; exact hown1, hB.grown hgrow hsz (fun k hk => (hown.lt k hk).1)⟩
      case measure => simp [intOf]; omega
    · have hj' : j = st.pn := by omega
      subst hj'
      replace hown := Lib.hid hown
      replace hB := Lib.hid hB
      go_wp2_with fail
      go_ret
      exact ⟨_, rfl, hown.out, hB.out⟩
set_option maxRecDepth 100000 in
set_option maxHeartbeats 4000000 in
theorem lay_any {Fm Fr : Nat → Prop} {c : Nat} {st : Chip} {L : Lay} {w : World} (h : ChipR w Fm Fr c st L) (n : Nat) (hn : n < st.bn) (g cap : Nat) (b : List UInt8) (hO : OwnB w g cap b) (hg : ¬ Fm g) (hb : b.length = st.pn * 288) :
    Calls Try.prog 46 #[.pointer (some ⟨L.k n, 0, none⟩), .slice (some ⟨g, 0, none⟩) b.length cap] w fun e w' => e = .returned (.tuple #[]) ∧ ChipR w' Fm Fr c (st.setPages n (st.laid n b)) L ∧ Kept Fm w w' := by
  have b0 := h.b0 hn
  have hbnd := h.bnd
  have hgl := hO.lt
  have h0 : ChipR w Fm Fr c (st.setPages n (fun x => if x < 0 then piece b x else (st.blk n).pages x)) L := by
    have : (fun x => if x < 0 then piece b x else (st.blk n).pages x) = (st.blk n).pages := by funext x; simp
    rw [this, setPages_self]; exact h
  have hcap : b.length ≤ cap := by obtain ⟨_, _, _, hc, _⟩ := hO; exact hc
  have hOk := Lib.hid (fun (W : World) (hW : Kept Fm w W) => (show OwnB W g cap b by obtain ⟨cur, h1, h2⟩ := hO; exact ⟨cur, (hW.block g hgl hg).trans h1, h2⟩))
  have hpn : ∀ f, (st.setPages n f).pn = st.pn := fun f => rfl
  obtain ⟨bl, hbl⟩ : ∃ bl, b.length = bl := ⟨_, rfl⟩
  have hps : bl = st.pn * 288 := by rw [← hbl]; exact hb
  have hcl : bl ≤ cap := by omega
  rw [hbl]
  replace h0 := Lib.hid h0
  replace hps := Lib.hid hps
  replace hbl := Lib.hid hbl
  clear h hO
  go_enter Try.func46, Try.ntmps46
  go_wp2_with fail
  go_loopw [11] (fun i wr => ∃ j : Nat, j ≤ st.pn ∧ i = .int .i64 j ∧ ChipR wr Fm Fr c (st.setPages n (fun x => if x < j then piece b x else (st.blk n).pages x)) L ∧ Kept Fm w wr) (fun i _ => st.pn - (intOf i).toNat)
  case atStart => exact ⟨0, by omega, rfl, h0.out, Kept.refl _ _⟩
  case round =>
    clear h0 b0
    obtain ⟨j, hj, rfl, hc, hk⟩ := hrel
    by_cases hlt : j < st.pn
    · have p0 := hc.pp hn hlt
      have hq := hc.byt n hn j hlt
      have hl := hc.len n hn j hlt
      have hOw := hOk.out wr hk
      have hpl := piece_len b j st.pn hb hlt
      have hI0 : (0 : Int) ≤ (j : Int) := by omega
      have hI1 : (j : Int) < (st.pn : Int) := by omega
      have hj9 : j * 288 + 288 ≤ bl := by have := hps.out; have : (j + 1) * 288 ≤ st.pn * 288 := Nat.mul_le_mul_right _ (by omega); omega
      have hwr := show IntKind.i64.wrap ((j : Int) * 288) = (j : Int) * 288 by rw [IntKind.wrap_i64]; omega
      have hsl : ∀ W, (Instr.slice 65 (.slice (some ⟨g, 0, none⟩) bl cap) (some (.int .i64 ((j : Int) * 288))) none none).run Try.prog W = .ok (.slice (some ⟨g, j * 288, none⟩) (bl - j * 288) (cap - j * 288)) W := fun W => by
        rw [run_slice_l (P := Try.prog) W 65 (some ⟨g, 0, none⟩) bl cap (by kernel_rfl) .i64 ((j : Int) * 288) (by omega) (by omega)]
        rw [show (Go.sizeOf (Try.prog.elem 65)).run Try.prog W = .ok 1 W from by kernel_rfl]
        have e1 : ((j : Int) * 288).toNat = j * 288 := by omega
        have e2 : ¬ cap = j * 288 := by omega
        rw [e1]
        simp [Result.andThen, sliced, e2]
        unfold Addr.add
        split
        · rename_i e; rw [e]
        · simp
      obtain ⟨hcp, hbx, hgr⟩ := (Box.drew hq).copy 0 (piece b j) (by rw [hpl, hl]; omega) ⟨g, j * 288, none⟩ 288 288 (bl - j * 288) (cap - j * 288) (by rw [hpl]; exact (Nat.min_eq_right (by omega)).symm) (fun x hx => by
        rw [hpl] at hx
        have hadd : (⟨g, j * 288, none⟩ : Addr).add x = ⟨g, j * 288 + x, none⟩ := by unfold Addr.add; split <;> simp_all
        rw [hadd, (OwnB.drew hOw).cell (j * 288 + x) (by have := hbl.out; omega)]
        rw [piece_get b j x (by omega) (by have := hbl.out; omega)]) 3
      rw [splice_all _ _ (by rw [hpl, hl])] at hcp hbx hgr
      rw [hpl] at hcp
      have hcd : ChipR wr.drew Fm Fr c (st.setPages n (fun x => if x < j then piece b x else (st.blk n).pages x)) L := hc.below ((Below.refl _ _).drew)
      have hc2 := hcd.upd_bytes n j hn hlt (piece b j) hpl hbx hgr
      rw [setPages_page, laid_step] at hc2
      have hk2 := (hk.then ((Below.refl wr.heap.size wr).drew)).trans (Kept.of_grown (F := Fm) hgr (hc.fq n hn j hlt)) (fun _ hb => .inl hb)
      obtain ⟨W2, hW2⟩ : ∃ W2, wr.drew.setRow (L.q n j) (cellsB (piece b j)) = W2 := ⟨_, rfl⟩
      rw [hW2] at hcp hc2 hk2
      replace hcp := Lib.hid hcp
      replace hc2 := Lib.hid hc2
      replace hk2 := Lib.hid hk2
      clear hc hk hq hOw hbx hgr hcd hW2 hl
      go_wp2_with fail
      refine wp_region_noPanic ?_
      refine wp_region_held_drew (S := fun _ => True) (by kernel_rfl) (trivial) (fun hHeld => ?_)
      refine wpAnyH_take (i := 0) (v := ?_) rfl (by kernel_rfl) (by kernel_rfl) (by kernel_rfl) (fun _ _ _ h => h) (Or.inl ⟨rfl, ?_⟩) (by assumption) ?_
      rotate_left
      · intro W hSw
        (try dsimp only at hSw)
        go_simp
        try with_reducible rfl
      try simp only [List.getElem_toArray, List.getElem_cons_zero, List.getElem_cons_succ, Act.put, List.setIfInBounds_toArray, List.set_cons_zero, List.set_cons_succ]
      refine wpAnyH_take (i := 1) (v := ?_) rfl (by kernel_rfl) (by kernel_rfl) (by kernel_rfl) (fun _ _ _ h => h) (Or.inl ⟨rfl, ?_⟩) (by assumption) ?_
      rotate_left
      · intro W hSw
        (try dsimp only at hSw)
        go_simp
        try with_reducible rfl
      try simp only [List.getElem_toArray, List.getElem_cons_zero, List.getElem_cons_succ, Act.put, List.setIfInBounds_toArray, List.set_cons_zero, List.set_cons_succ]
      refine wpAnyH_take (i := 2) (v := ?_) rfl (by kernel_rfl) (by kernel_rfl) (by kernel_rfl) (fun _ _ _ h => h) (Or.inl ⟨rfl, ?_⟩) (by assumption) ?_
      rotate_left
      · intro W hSw
        (try dsimp only at hSw)
        go_simp
        try with_reducible rfl
      try simp only [List.getElem_toArray, List.getElem_cons_zero, List.getElem_cons_succ, Act.put, List.setIfInBounds_toArray, List.set_cons_zero, List.set_cons_succ]
      refine wpAnyH_take (i := 3) (v := ?_) rfl (by kernel_rfl) (by kernel_rfl) (by kernel_rfl) (fun _ _ _ h => h) (Or.inl ⟨rfl, ?_⟩) (by assumption) ?_
      rotate_left
      · intro W hSw
        (try dsimp only at hSw)
        go_simp
        try with_reducible rfl
      try simp only [List.getElem_toArray, List.getElem_cons_zero, List.getElem_cons_succ, Act.put, List.setIfInBounds_toArray, List.set_cons_zero, List.set_cons_succ]
      refine wpAnyH_take (i := 4) (v := ?_) rfl (by kernel_rfl) (by kernel_rfl) (by kernel_rfl) (fun _ _ _ h => h) (Or.inl ⟨rfl, ?_⟩) (by assumption) ?_
      rotate_left
      · intro W hSw
        (try dsimp only at hSw)
        go_simp
        try with_reducible rfl
      try simp only [List.getElem_toArray, List.getElem_cons_zero, List.getElem_cons_succ, Act.put, List.setIfInBounds_toArray, List.set_cons_zero, List.set_cons_succ]
      refine wpAnyH_take (i := 5) (v := ?_) rfl (by kernel_rfl) (by kernel_rfl) (by kernel_rfl) (fun _ _ _ h => h) (Or.inl ⟨rfl, ?_⟩) (by assumption) ?_
      rotate_left
      · intro W hSw
        (try dsimp only at hSw)
        go_simp
        try with_reducible rfl
      try simp only [List.getElem_toArray, List.getElem_cons_zero, List.getElem_cons_succ, Act.put, List.setIfInBounds_toArray, List.set_cons_zero, List.set_cons_succ]
      refine wpAnyH_take (i := 6) (v := ?_) rfl (by kernel_rfl) (by kernel_rfl) (by kernel_rfl) (fun _ _ _ h => h) (Or.inl ⟨rfl, ?_⟩) (by assumption) ?_
      rotate_left
      · intro W hSw
        (try dsimp only at hSw)
        go_simp
        try with_reducible rfl
      try simp only [List.getElem_toArray, List.getElem_cons_zero, List.getElem_cons_succ, Act.put, List.setIfInBounds_toArray, List.set_cons_zero, List.set_cons_succ]
      refine wpAnyH_ready (rs := [7]) (by kernel_rfl) (by simp) (AllReadyH.cons rfl (fun K hK => ?_) AllReadyH.nil)
      refine step_copy_run rfl (.tmp 18) (.tmp 22) 65 65 rfl _ _ rfl rfl _ _ hcp.out ?_
      refine hK.out _ _ trivial (fun hHeld => ?_)
      clear hK
      try simp only [List.getElem_toArray, List.getElem_cons_zero, List.getElem_cons_succ, Act.put, List.setIfInBounds_toArray, List.set_cons_zero, List.set_cons_succ]
      refine wpAnyH_done (by kernel_rfl) ?_ _
      (try dsimp only [NoPanic])
      go_wp2_with fail
      go_roundw
      case rel => exact ⟨j + 1, by omega, by go_num, hc2.out, hk2.out⟩
      case measure => simp [intOf]; omega
    · have hj' : j = st.pn := by omega
      subst hj'
      have hfin : ChipR wr Fm Fr c (st.setPages n (st.laid n b)) L := hc
      replace hfin := Lib.hid hfin
      replace hk := Lib.hid hk
      clear hc
      go_wp2_with fail
      refine bodyPost_end (v := .tuple #[]) (by simp [results, Try.results46, go_sem]) rfl ?_
      exact ⟨rfl, hfin.out, hk.out⟩
end Go.Proofs.Ytlgjlhgdpiipbaa
