/- A chip in memory behind a change of one of its parts. -/
import Derived.Test.YtlgjlhgdpiipbaaK
namespace Go.Proofs.Ytlgjlhgdpiipbaa
open Go.RowKit
def Chip.setPage (st : Chip) (n j : Nat) (l : List UInt8) : Chip := st.setBlk n { st.blk n with pages := fun x => if x = j then l else (st.blk n).pages x }
def Chip.setLook (st : Chip) (n : Nat) (k : Look) : Chip := st.setBlk n { st.blk n with look := k }
theorem same_grown {R : Nat → Prop} {W W' : World} {b : Nat} (hg : W.grownBy W' (some b)) (hR : ∀ x, R x → x < W.heap.size ∧ x ≠ b) : Same R W W' :=
  ⟨fun x hx => hg.block x (hR x hx).1 (fun e => (hR x hx).2 (by cases e; rfl)), hg.size⟩
section
variable {W W' : World} {Fm Fr : Nat → Prop} {c : Nat} {st : Chip} {L : Lay}
theorem ChipR.fr_ne (h : ChipR W Fm Fr c st L) {b : Nat} (hb : Fm b) : ∀ x, Fr x → x < W.heap.size ∧ x ≠ b := fun x hx => ⟨h.ltr x hx, fun e => by subst e; exact h.disj x hb hx⟩
/-- The chip's own cells. -/
theorem ChipR.upd_chip (h : ChipR W Fm Fr c st L) (v : Value) (evs : List Ev) (ops : Int) (off : Bool) (hb : Box W' c 77 (chipA { L with ev := v } { st with evs := evs, ops := ops, off := off })) (hg : W.grownBy W' (some c))
    (hev : EvS W' Fr v evs) (ho : 0 ≤ ops ∧ ops ≤ 1000000) : ChipR W' Fm Fr c { st with evs := evs, ops := ops, off := off } { L with ev := v } where
  chip := hb
  row := h.row.grown hg (by simpa using (h.row.ne h.chip (by decide)))
  rowAt := h.rowAt
  blk i hi := (h.blk i hi).grown hg (by simpa using ((h.blk i hi).ne h.chip (by decide)))
  prow i hi := (h.prow i hi).grown hg (by simpa using ((h.prow i hi).ne h.chip (by decide)))
  prowAt := h.prowAt
  byt i hi j hj := (h.byt i hi j hj).grown hg (by simpa using ((h.byt i hi j hj).ne h.chip (by decide)))
  len := h.len
  kinj := h.kinj
  pinj := h.pinj
  qinj := h.qinj
  evs := hev
  fc := h.fc
  fk := h.fk
  fp := h.fp
  fq := h.fq
  fba := h.fba
  disj := h.disj
  ltm b hb := Nat.lt_of_lt_of_le (h.ltm b hb) hg.size
  ltr b hb := Nat.lt_of_lt_of_le (h.ltr b hb) hg.size
  bnd := h.bnd
  opsb := ho
/-- What is known of one block. -/
theorem ChipR.upd_look (h : ChipR W Fm Fr c st L) (n : Nat) (hn : n < st.bn) (k : Look) (hb : Box W' (L.k n) 84 (blkA L (st.setLook n k) n)) (hg : W.grownBy W' (some (L.k n))) : ChipR W' Fm Fr c (st.setLook n k) L where
  chip := h.chip.grown hg (by simpa using (h.chip.ne (h.blk n hn) (by decide)))
  row := h.row.grown hg (by simpa using (h.row.ne (h.blk n hn) (by decide)))
  rowAt := h.rowAt
  blk i hi := by
    by_cases e : i = n
    · subst e; exact hb
    · have h1 := (h.blk i hi).grown hg (by simpa using fun e2 => e (h.kinj i hi n hn e2))
      have : blkA L (st.setLook n k) i = blkA L st i := by unfold blkA Chip.setLook Chip.setBlk; simp [e]
      rw [this]; exact h1
  prow i hi := (h.prow i hi).grown hg (by simpa using ((h.prow i hi).ne (h.blk n hn) (by decide)))
  prowAt := h.prowAt
  byt i hi j hj := by
    have h1 := (h.byt i hi j hj).grown hg (by simpa using ((h.byt i hi j hj).ne (h.blk n hn) (by decide)))
    have : ((st.setLook n k).blk i).pages = (st.blk i).pages := by
      unfold Chip.setLook Chip.setBlk
      dsimp only
      split
      · rename_i e; subst e; rfl
      · rfl
    rw [this]; exact h1
  len i hi j hj := by
    have : ((st.setLook n k).blk i).pages = (st.blk i).pages := by
      unfold Chip.setLook Chip.setBlk
      dsimp only
      split
      · rename_i e; subst e; rfl
      · rfl
    rw [this]; exact h.len i hi j hj
  kinj := h.kinj
  pinj := h.pinj
  qinj := h.qinj
  evs := h.evs.same (same_grown hg (h.fr_ne (h.fk n hn)))
  fc := h.fc
  fk := h.fk
  fp := h.fp
  fq := h.fq
  fba := h.fba
  disj := h.disj
  ltm b hb := Nat.lt_of_lt_of_le (h.ltm b hb) hg.size
  ltr b hb := Nat.lt_of_lt_of_le (h.ltr b hb) hg.size
  bnd := h.bnd
  opsb := h.opsb
theorem setPage_pages (st : Chip) (n j i x : Nat) (l : List UInt8) : ((st.setPage n j l).blk i).pages x = if i = n ∧ x = j then l else (st.blk i).pages x := by
  unfold Chip.setPage Chip.setBlk
  dsimp only
  by_cases e : i = n
  · subst e
    rw [if_pos rfl]
    dsimp only
    by_cases e2 : x = j
    · rw [if_pos e2, if_pos ⟨rfl, e2⟩]
    · rw [if_neg e2, if_neg (fun h => e2 h.2)]
  · rw [if_neg e, if_neg (fun h => e h.1)]
theorem setPage_look (st : Chip) (n j i : Nat) (l : List UInt8) : ((st.setPage n j l).blk i).look = (st.blk i).look := by
  unfold Chip.setPage Chip.setBlk
  dsimp only
  split
  · rename_i e; subst e; rfl
  · rfl
theorem setLook_pages (st : Chip) (n i : Nat) (k : Look) : ((st.setLook n k).blk i).pages = (st.blk i).pages := by
  unfold Chip.setLook Chip.setBlk
  dsimp only
  split
  · rename_i e; subst e; rfl
  · rfl
theorem setLook_look (st : Chip) (n i : Nat) (k : Look) : ((st.setLook n k).blk i).look = if i = n then k else (st.blk i).look := by
  unfold Chip.setLook Chip.setBlk
  dsimp only
  split <;> rfl
/-- One page's bytes, in their place. -/
theorem ChipR.upd_bytes (h : ChipR W Fm Fr c st L) (n j : Nat) (hn : n < st.bn) (hj : j < st.pn) (l : List UInt8) (hl : l.length = 288) (hb : Box W' (L.q n j) 110 (cellsB l)) (hg : W.grownBy W' (some (L.q n j))) : ChipR W' Fm Fr c (st.setPage n j l) L where
  chip := h.chip.grown hg (by simpa using (h.chip.ne (h.byt n hn j hj) (by decide)))
  row := h.row.grown hg (by simpa using (h.row.ne (h.byt n hn j hj) (by decide)))
  rowAt := h.rowAt
  blk i hi := by
    have h1 := (h.blk i hi).grown hg (by simpa using ((h.blk i hi).ne (h.byt n hn j hj) (by decide)))
    have : blkA L (st.setPage n j l) i = blkA L st i := by unfold blkA; rw [setPage_look]; rfl
    rw [this]; exact h1
  prow i hi := (h.prow i hi).grown hg (by simpa using ((h.prow i hi).ne (h.byt n hn j hj) (by decide)))
  prowAt := h.prowAt
  byt i hi x hx := by
    rw [setPage_pages]
    by_cases e : i = n ∧ x = j
    · obtain ⟨rfl, rfl⟩ := e
      rw [if_pos ⟨rfl, rfl⟩]; exact hb
    · rw [if_neg e]
      exact (h.byt i hi x hx).grown hg (by simpa using fun e2 => e (h.qinj i hi x hx n hn j hj e2))
  len i hi x hx := by
    rw [setPage_pages]
    split
    · exact hl
    · exact h.len i hi x hx
  kinj := h.kinj
  pinj := h.pinj
  qinj := h.qinj
  evs := h.evs.same (same_grown hg (h.fr_ne (h.fq n hn j hj)))
  fc := h.fc
  fk := h.fk
  fp := h.fp
  fq := h.fq
  fba := h.fba
  disj := h.disj
  ltm b hb := Nat.lt_of_lt_of_le (h.ltm b hb) hg.size
  ltr b hb := Nat.lt_of_lt_of_le (h.ltr b hb) hg.size
  bnd := h.bnd
  opsb := h.opsb
/-- Where the parts lie behind a page's change. -/
def Lay.setPage (L : Lay) (n j b : Nat) : Lay := { L with parr := fun i => if i = n then (L.parr n).setIfInBounds j (ptr b) else L.parr i, q := fun i x => if i = n ∧ x = j then b else L.q i x }
/-- One page, in a block of its own. -/
theorem ChipR.upd_page (h : ChipR W Fm Fr c st L) (n j : Nat) (hn : n < st.bn) (hj : j < st.pn) (l : List UInt8) (hl : l.length = 288) (b : Nat) (hb : Box W b 110 (cellsB l)) (hbm : ¬ Fm b) (hbr : ¬ Fr b) :
    ChipR (W.setCell ⟨L.p n, j, none⟩ (ptr b)) (fun x => Fm x ∨ x = b) Fr c (st.setPage n j l) (L.setPage n j b) := by
  have hp := h.prow n hn
  have hsz : (W.setCell ⟨L.p n, j, none⟩ (ptr b)).heap.size = W.heap.size := by simp [World.setCell]
  have hfar : ∀ {x : Nat} {t : TypeId} {vs : Array Value}, Box W x t vs → x ≠ L.p n → Box (W.setCell ⟨L.p n, j, none⟩ (ptr b)) x t vs := fun hx hne => hx.far _ _ (fun e => hne e.symm)
  have hlk : ∀ i, ((st.setPage n j l).blk i).look = (st.blk i).look := fun i => setPage_look st n j i l
  have hsame : Same Fr W (W.setCell ⟨L.p n, j, none⟩ (ptr b)) := ⟨fun x hx => Below.heap_setCell W ⟨L.p n, j, none⟩ (ptr b) x (fun e => by subst e; exact h.disj _ (h.fp n hn) hx), by rw [hsz]; exact Nat.le_refl _⟩
  refine ⟨?_, ?_, h.rowAt, ?_, ?_, ?_, ?_, ?_, h.kinj, h.pinj, ?_, ?_, .inl h.fc, fun i hi => .inl (h.fk i hi), fun i hi => .inl (h.fp i hi), ?_, h.fba, ?_, ?_, ?_, h.bnd, h.opsb⟩
  · exact hfar h.chip (h.chip.ne hp (by decide))
  · exact hfar h.row (h.row.ne hp (by decide))
  · intro i hi
    have h1 := hfar (h.blk i hi) ((h.blk i hi).ne hp (by decide))
    have : blkA (L.setPage n j b) (st.setPage n j l) i = blkA L st i := by
      unfold blkA
      rw [hlk]
      have : ((L.setPage n j b).parr i).size = (L.parr i).size := by
        unfold Lay.setPage
        dsimp only
        split
        · rename_i e; subst e; simp
        · rfl
      rw [this]; rfl
    rw [this]; exact h1
  · intro i hi
    show Box _ (L.p i) 85 (if i = n then (L.parr n).setIfInBounds j (ptr b) else L.parr i)
    by_cases e : i = n
    · subst e; rw [if_pos rfl]; exact hp.set j (ptr b)
    · rw [if_neg e]
      exact hfar (h.prow i hi) (fun e2 => e (h.pinj i hi n hn e2))
  · intro i hi x hx
    show (if i = n then (L.parr n).setIfInBounds j (ptr b) else L.parr i)[x]? = some (ptr (if i = n ∧ x = j then b else L.q i x))
    by_cases e : i = n
    · subst e
      rw [if_pos rfl]
      by_cases e2 : x = j
      · subst e2
        rw [if_pos ⟨rfl, rfl⟩]
        have hlt := (Array.getElem?_eq_some_iff.1 (h.prowAt i hi x hx)).1
        simp [hlt]
      · rw [if_neg (fun h => e2 h.2), Array.getElem?_setIfInBounds_ne (fun e3 => e2 e3.symm)]
        exact h.prowAt i hi x hx
    · rw [if_neg e, if_neg (fun h => e h.1)]
      exact h.prowAt i hi x hx
  · intro i hi x hx
    rw [setPage_pages]
    show Box _ (if i = n ∧ x = j then b else L.q i x) 110 _
    by_cases e : i = n ∧ x = j
    · rw [if_pos e, if_pos e]
      exact hfar hb (hb.ne hp (by decide))
    · rw [if_neg e, if_neg e]
      exact hfar (h.byt i hi x hx) ((h.byt i hi x hx).ne hp (by decide))
  · intro i hi x hx
    rw [setPage_pages]
    split
    · exact hl
    · exact h.len i hi x hx
  · intro i hi x hx i' hi' x' hx'
    show (if i = n ∧ x = j then b else L.q i x) = (if i' = n ∧ x' = j then b else L.q i' x') → _
    by_cases e : i = n ∧ x = j
    · rw [if_pos e]
      by_cases e' : i' = n ∧ x' = j
      · intro _; exact ⟨e.1.trans e'.1.symm, e.2.trans e'.2.symm⟩
      · rw [if_neg e']
        intro e2
        exact absurd (e2 ▸ h.fq i' hi' x' hx') hbm
    · rw [if_neg e]
      by_cases e' : i' = n ∧ x' = j
      · rw [if_pos e']
        intro e2
        exact absurd (e2 ▸ h.fq i hi x hx) hbm
      · rw [if_neg e']
        exact h.qinj i hi x hx i' hi' x' hx'
  · exact h.evs.same hsame
  · intro i hi x hx
    show Fm (if i = n ∧ x = j then b else L.q i x) ∨ (if i = n ∧ x = j then b else L.q i x) = b
    by_cases e : i = n ∧ x = j
    · rw [if_pos e]; exact .inr rfl
    · rw [if_neg e]; exact .inl (h.fq i hi x hx)
  · rintro x (hx | rfl)
    · exact h.disj x hx
    · exact hbr
  · rintro x (hx | rfl)
    · rw [hsz]; exact h.ltm x hx
    · rw [hsz]; exact hb.lt
  · intro x hx
    rw [hsz]; exact h.ltr x hx
end
end Go.Proofs.Ytlgjlhgdpiipbaa
