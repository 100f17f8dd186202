/- Pages, to a law; a chip without power. -/
import Derived.Test.YtlgjlhgdpiipbaaZg
namespace Go.Proofs.Ytlgjlhgdpiipbaa
open Go.RowKit
theorem has_pages22 {w W : World} {X : Nat → Prop} {c : Nat} {st : Chip} (h : Has w W X c st) (n : Int) : Calls Try.prog 22 #[.pointer (some ⟨c, 0, none⟩), .int .i64 n] W (SeqPg (st.pagesOf n) W) := by
  obtain ⟨Fm, Fr, L, hC, hge, hX, hw⟩ := h; exact pages22_any hC n
theorem pagesOf_len {w W : World} {X : Nat → Prop} {c : Nat} {st : Chip} (h : Has w W X c st) (n : Int) : (st.pagesOf n).length ≤ 32 := by
  unfold Chip.pagesOf
  split
  · rw [List.length_map, List.length_range]; exact h.bnd.2.2.2
  · simp
theorem pagesOf_mem {w W : World} {X : Nat → Prop} {c : Nat} {st : Chip} (h : Has w W X c st) (n : Int) : ∀ p ∈ st.pagesOf n, p.length = 288 := by
  obtain ⟨Fm, Fr, L, hC, hge, hX, hw⟩ := h
  intro p hp
  unfold Chip.pagesOf at hp
  split at hp
  · rename_i ht
    obtain ⟨i, rfl, hi⟩ := Chip.there_nat ht
    obtain ⟨j, hj, rfl⟩ := List.mem_map.1 hp
    exact hC.len i hi j (List.mem_range.1 hj)
  · cases hp
/-- Pages and then the law's pages: the numbers and the pages of a block. -/
theorem seqPg_pages {w W1 : World} {ps : List (List UInt8)} {Bl : Nat} {la : Option Addr} {lc : Nat} (m : Nat) (h32 : ps.length ≤ 32) (hm : m ≤ 1000000) (hbx : Box W1 Bl 56 #[.slice la ps.length lc]) (hrd : RdC pgL 288 W1 (.slice la ps.length lc) ps) (hla : ∀ b o, la = some ⟨b, o, none⟩ → w.heap.size ≤ b ∧ b < W1.heap.size) :
    Calls Try.prog 21 #[.func (.func 55) #[] #[.pointer (some ⟨Bl, 0, none⟩)], .int .i64 m] W1 (PgsRes (ps.zipIdx.take m) W1) :=
  pages21_any Bl ps la lc m h32 W1 hbx hrd (fun b o e => (hla b o e).2) hm
/-- Without power nothing is done, and everything says so. -/
theorem program_off {st : Chip} (h : st.off = true) (n p : Int) (pg : List UInt8) : st.program n p pg = (8, st) := by
  have ha : st.asks n p = 8 := asks_off h
  unfold Chip.program
  rw [ha]
  exact if_pos (by decide)
theorem erase_off {st : Chip} (h : st.off = true) (n : Int) : st.erase n = (8, st) := by
  have ha : st.asks n 0 = 8 := asks_off h
  unfold Chip.erase
  rw [ha]
  exact if_pos (by decide)
theorem readAt_off {st : Chip} (h : st.off = true) (n p : Int) : st.readAt n p = (rep 288 0, 8) := by
  have ha : st.asks n p = 8 := asks_off h
  unfold Chip.readAt
  rw [ha]
  exact if_neg (by decide)
theorem does_off {st : Chip} (h : st.off = true) (o : Cl) (ho : o.do_ ≠ 3) : (st.does o).2 = st ∧ (0 ≤ o.do_ ∧ o.do_ ≤ 2 → (st.does o).1.2 = 8) := by
  unfold Chip.does
  split
  · rw [program_off h]; exact ⟨rfl, fun _ => rfl⟩
  · rename_i h0
    split
    · rw [erase_off h]; exact ⟨rfl, fun _ => rfl⟩
    · rename_i h1
      split
      · rw [readAt_off h]; exact ⟨rfl, fun _ => rfl⟩
      · rename_i h2
        try rw [if_neg ho]
        exact ⟨rfl, fun hh => by omega⟩
end Go.Proofs.Ytlgjlhgdpiipbaa
