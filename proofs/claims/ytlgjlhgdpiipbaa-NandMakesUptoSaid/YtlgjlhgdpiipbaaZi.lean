/- NandPower, plainly: the chip behind calls; without power. -/
import Derived.Test.YtlgjlhgdpiipbaaZh
namespace Go.Proofs.Ytlgjlhgdpiipbaa
open Go.RowKit
/-- A call's cells. -/
def clL (o : Cl) : List Value := [.int .i64 o.do_, .int .i64 o.blk, .int .i64 o.page, .bool o.next, .int .u8 o.fill.toNat]
theorem clL_len (o : Cl) : (clL o).length = 5 := rfl
/-- The chip behind these calls. -/
def Chip.runs (st : Chip) (l : List Cl) : Chip := l.foldl (fun s o => (s.does o).2) st
theorem runs_nil (st : Chip) : st.runs [] = st := rfl
theorem runs_snoc (st : Chip) (l : List Cl) (o : Cl) : st.runs (l ++ [o]) = ((st.runs l).does o).2 := by unfold Chip.runs; rw [List.foldl_append]; rfl
theorem runs_good {st : Chip} : ∀ (l : List Cl) (N : Int), st.Good N → (st.runs l).Good (N + l.length) := by
  intro l
  induction l generalizing st with
  | nil => intro N h; exact h.mono (by simp)
  | cons o r ih =>
    intro N h
    have := ih (N + 1) (does_good h o)
    show ((st.does o).2.runs r).Good _
    refine this.mono ?_
    simp only [List.length_cons]
    omega
theorem runs_geo (st : Chip) : ∀ (l : List Cl), (st.runs l).bn = st.bn ∧ (st.runs l).pn = st.pn := by
  intro l
  induction l generalizing st with
  | nil => exact ⟨rfl, rfl⟩
  | cons o r ih =>
    have h1 := ih (st.does o).2
    have h2 := does_geo st o
    exact ⟨h1.1.trans h2.1, h1.2.trans h2.2⟩
/-- The chip that NandPower makes. -/
theorem power_new (bn pn : Int) (n : Nat) : newChip bn pn [] [⟨1 + (n : Int) % 50, 2, []⟩] = if geoOk bn pn then .ok (freshChip bn.toNat pn.toNat [⟨1 + (n : Int) % 50, 2, []⟩] (fun _ => false)) else .error 20 := by
  unfold newChip
  by_cases h : geoOk bn pn
  · rw [if_pos h, if_pos h]
    have hm : mayFrom 0 [⟨1 + (n : Int) % 50, 2, []⟩] = true := by
      rw [mayFrom_yes ⟨by show ¬ (1 + (n : Int) % 50) ≤ 0; omega, .inr rfl, by simp⟩]
      rfl
    show (if mayFrom 0 _ = true then _ else _) = _
    rw [if_pos hm]
  · rw [if_neg h, if_neg h]
/-- Its event lies in memory of the law's own. -/
theorem evS_bare (w : World) (b : Nat) (x : Int) (hb : Box w b 67 #[.int .i64 x, .int .i64 2, .slice none 0 0]) : EvS w (fun y => y < w.heap.size) (.slice (some ⟨b, 0, none⟩) 1 1) [⟨x, 2, []⟩] := by
  refine ⟨some ⟨b, 0, none⟩, 1, rfl, Nat.le_refl _, fun j e he => ?_⟩
  match j, he with
  | 0, he =>
    cases he
    exact ⟨b, 0, _, rfl, hb.lt, hb.lt, hb.get 0 _ rfl, hb.get 1 _ rfl, hb.get 2 _ rfl, fun W' _ => Rd.nil _ _⟩
/-- Pages do not depend on whether there is power. -/
theorem pagesOf_off (st : Chip) (o : Bool) (n : Int) : ({ st with off := o } : Chip).pagesOf n = st.pagesOf n := rfl
theorem on_self {st : Chip} (h : st.off = true) : ({ st with off := true } : Chip) = st := by
  obtain ⟨bn, pn, blk, evs, ops, off⟩ := st
  dsimp at h
  subst h
  rfl
end Go.Proofs.Ytlgjlhgdpiipbaa
