/- Calls of the library on texts: Split, Join, CutPrefix, slices.Equal. -/
import Derived.Test.YtopfkbpjfcdjnaaDoorI
import Derived.Test.YtopfkbpjfcdjnaaDoorO
import Derived.Test.YtopfkbpjfcdjnaaDoorShelf
import Derived.LoopTactic
namespace Go.Proofs.YtopfkbpjfcdjnaaDoor
open Go.RowKit
/-- What a call of the library's search asks of the world: its one variable. -/
def Gl (w : World) : Prop := 1 < w.heap.size ∧ ∃ m : Int, w.cell? ⟨1, 0, none⟩ = some (.int .i64 m)
theorem Gl.below {w w' : World} (h : Gl w) (hb : Below w.heap.size w w') : Gl w' := by
  obtain ⟨h0, m, hm⟩ := h
  exact ⟨Nat.lt_of_lt_of_le h0 hb.size, m, by rw [hb.cell (p := ⟨1, 0, none⟩) h0]; exact hm⟩
theorem Gl.drewN {w : World} (h : Gl w) (n : Nat) : Gl (w.drewN n) := h
/-- A slice of texts, all of it new. -/
def NewTexts (xs : List (List UInt8)) (w : World) (e : Ending) (w' : World) : Prop :=
  e = .returned (.slice (some ⟨w.heap.size, 0, none⟩) xs.length xs.length) ∧ w' = w.alloc (.cells (xs.map strV).toArray 9)
theorem split_S (c : UInt8) (s : List UInt8) (w : World) (hG : Gl w) (hs : s.length < 4294967281) :
    Calls Tryd.prog 36 #[.string (S s), .string ⟨#[c]⟩] w (NewTexts (Tr.spl c s) w) := by
  obtain ⟨_, m, hm⟩ := hG
  refine (Tryd.strings_Split (S s) (S [c]) m w (by simpa using hs) hm (by simp)).mono ?_
  rintro e w' ⟨he, hw⟩
  refine ⟨?_, ?_⟩
  · rw [he, countB_spl]
  · rw [hw, splitB_vals]; rfl
theorem newTexts_own (w : World) (xs : List (List UInt8)) (hl : xs.length ≤ maxLen) : (w.alloc (.cells (xs.map strV).toArray 9)).ownsRow w.heap.size 9 1 (.slice (some ⟨w.heap.size, 0, none⟩) xs.length xs.length) xs.length (xs.map strV) :=
  ⟨by simp, .inr ⟨w.heap.size, xs.length, (xs.map strV).toArray, rfl, Nat.le_refl _, heap_alloc_new w _, Nat.le_refl _, hl, by simp, by simp [List.take_of_length_le]⟩⟩
theorem texts_one (xs : List (List UInt8)) : ∀ u ∈ xs.map strV, u.oneCell' = true := by
  intro u hu; simp only [List.mem_map] at hu; obtain ⟨b, _, rfl⟩ := hu; rfl
theorem join_S (W : World) (v : Value) (xs : List (List UInt8)) (c : UInt8) (h : RdS W v xs) (hN : xs.length ≤ 140737488355328) (hl : (Lib.join xs [c]).length ≤ 140737488355328) :
    Calls Tryd.prog 31 #[v, .string ⟨#[c]⟩] W (TextBelow (Lib.join xs [c]) W) := by
  have hd : ∀ xs : List (List UInt8), (xs.map S).map (·.data.toList) = xs := fun xs => by rw [List.map_map]; exact (List.map_congr_left fun l _ => rfl).trans (List.map_id _)
  by_cases hx : xs = []
  · subst hx
    obtain ⟨a, cap, rfl⟩ := h.len
    exact (Tryd.strings_Join_none a cap _ W).mono fun e w' ⟨he, hw⟩ => ⟨by rw [he]; rfl, hw ▸ Below.refl _ _⟩
  · obtain ⟨b, o, cap, rfl, hc, hb, hcell⟩ := h.at hx
    have := Tryd.strings_Join b o cap (xs.map S) (S [c]) W (fun j x hj => by
      rw [List.getElem?_map] at hj
      obtain ⟨l, hl, rfl⟩ := Option.map_eq_some_iff.1 hj
      obtain ⟨hj', rfl⟩ := List.getElem?_eq_some_iff.1 hl
      exact hcell j hj') hb (by simpa using hN) (by simpa using hc) (by rw [hd]; exact hl)
    rw [hd, List.length_map] at this
    exact this
/-- slices.Equal over two slices that read as one list of texts. -/
theorem equalS_true (xs : List (List UInt8)) (v u : Value) (w : World) (hv : RdS w v xs) (hu : RdS w u xs) (hn : xs.length ≤ 9223372036854775807) :
    Calls Tryd.prog 21 #[v, u] w fun e w' => e = .returned (.bool true) ∧ Below w.heap.size w w' := by
  obtain ⟨a, cap, rfl, hc, h3⟩ := hv
  obtain ⟨a2, cap2, rfl, hc2, h4⟩ := hu
  cases xs with
  | nil =>
    refine (Tryd.slices_Equal_string_empty a a2 cap 0 cap2 w (by omega)).mono ?_
    rintro e w' ⟨rfl, rfl⟩
    exact ⟨rfl, Below.refl _ _⟩
  | cons x xs =>
    obtain ⟨b, o, rfl, _⟩ := h3 0 x rfl
    obtain ⟨b2, o2, rfl, _⟩ := h4 0 x rfl
    have hcell : ∀ (b o : Nat) (cells : ∀ (j : Nat) (y : List UInt8), (x :: xs)[j]? = some y → ∃ b' o', some (⟨b, o, none⟩ : Addr) = some ⟨b', o', none⟩ ∧ b' < w.heap.size ∧ w.cell? ⟨b', o' + j, none⟩ = some (strV y)),
        ∀ j, j < ((x :: xs).map S).length → w.cell? ⟨b, o + j, none⟩ = some (.string (((x :: xs).map S).getD j ByteArray.empty)) := by
      intro b o cells j hj
      rw [List.length_map] at hj
      obtain ⟨b', o', e, _, hh⟩ := cells j _ (List.getElem?_eq_getElem hj)
      cases e
      rw [hh, List.getD_eq_getElem?_getD, List.getElem?_map, List.getElem?_eq_getElem hj]
      rfl
    refine (Tryd.slices_Equal_string b o (x :: xs).length cap b2 o2 (x :: xs).length cap2 ((x :: xs).map S) ((x :: xs).map S) w (by rw [List.length_map]; exact Nat.le_refl _) (by rw [List.length_map]; exact Nat.le_refl _) hn hn (hcell b o h3) (hcell b2 o2 h4)).mono ?_
    rintro e w' ⟨rfl, q, rfl⟩
    exact ⟨by simp, below_drewN _ _⟩
end Go.Proofs.YtopfkbpjfcdjnaaDoor
