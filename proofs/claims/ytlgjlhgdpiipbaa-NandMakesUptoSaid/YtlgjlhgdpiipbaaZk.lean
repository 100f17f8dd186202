/- Rows of the law's own, in blocks that calls leave; Pages and pages, to a law. -/
import Derived.Test.YtlgjlhgdpiipbaaZi
namespace Go.Proofs.Ytlgjlhgdpiipbaa
open Go.RowKit
section
variable {α : Type}
/-- A slice of structs, k cells each, in a block of X, reads as this list. -/
def RdX (X : Nat → Prop) (f : α → List Value) (k : Nat) (W : World) (v : Value) (xs : List α) : Prop :=
  ∃ a cap, v = .slice a xs.length cap ∧ xs.length ≤ cap ∧ ∀ j x, xs[j]? = some x → ∃ b o, a = some ⟨b, o, none⟩ ∧ X b ∧ b < W.heap.size ∧ ∀ i u, (f x)[i]? = some u → W.cell? ⟨b, o + j * k + i, none⟩ = some u
theorem RdX.rd {X : Nat → Prop} {f : α → List Value} {k : Nat} {W : World} {v : Value} {xs : List α} (h : RdX X f k W v xs) : RdC f k W v xs := by
  obtain ⟨a, cap, h1, h2, h3⟩ := h
  exact ⟨a, cap, h1, h2, fun j x hj => by obtain ⟨b, o, k1, _, k2, k3⟩ := h3 j x hj; exact ⟨b, o, k1, k2, k3⟩⟩
theorem RdX.same {X : Nat → Prop} {f : α → List Value} {k : Nat} {W W' : World} {v : Value} {xs : List α} (h : RdX X f k W v xs) (hs : Same X W W') : RdX X f k W' v xs := by
  obtain ⟨a, cap, h1, h2, h3⟩ := h
  refine ⟨a, cap, h1, h2, fun j x hj => ?_⟩
  obtain ⟨b, o, k1, k0, k2, k3⟩ := h3 j x hj
  exact ⟨b, o, k1, k0, Nat.lt_of_lt_of_le k2 hs.2, fun i u hu => (cell_of_heap (hs.1 b k0) _).trans (k3 i u hu)⟩
theorem RdX.below {X : Nat → Prop} {f : α → List Value} {k : Nat} {W W' : World} {v : Value} {xs : List α} (h : RdX X f k W v xs) (hb : Below W.heap.size W W') : RdX X f k W' v xs := by
  obtain ⟨a, cap, h1, h2, h3⟩ := h
  refine ⟨a, cap, h1, h2, fun j x hj => ?_⟩
  obtain ⟨b, o, k1, k0, k2, k3⟩ := h3 j x hj
  exact ⟨b, o, k1, k0, Nat.lt_of_lt_of_le k2 hb.size, fun i u hu => (cell_of_heap (hb.block b k2) _).trans (k3 i u hu)⟩
theorem RdX.mono {X Y : Nat → Prop} {f : α → List Value} {k : Nat} {W : World} {v : Value} {xs : List α} (h : RdX X f k W v xs) (hY : ∀ b, X b → Y b) : RdX Y f k W v xs := by
  obtain ⟨a, cap, h1, h2, h3⟩ := h
  refine ⟨a, cap, h1, h2, fun j x hj => ?_⟩
  obtain ⟨b, o, k1, k0, k2, k3⟩ := h3 j x hj
  exact ⟨b, o, k1, hY b k0, k2, k3⟩
theorem RdX.at {X : Nat → Prop} {f : α → List Value} {k : Nat} {W : World} {v : Value} {xs : List α} (h : RdX X f k W v xs) (hx : xs ≠ []) :
    ∃ b o cap, v = .slice (some ⟨b, o, none⟩) xs.length cap ∧ xs.length ≤ cap ∧ X b ∧ b < W.heap.size ∧ ∀ j (hj : j < xs.length) i u, (f xs[j])[i]? = some u → W.cell? ⟨b, o + j * k + i, none⟩ = some u := by
  obtain ⟨a, cap, rfl, hc, h3⟩ := h
  match xs, hx with
  | x :: xs, _ =>
    obtain ⟨b, o, rfl, hX, hb, _⟩ := h3 0 x rfl
    refine ⟨b, o, cap, rfl, hc, hX, hb, fun j hj => ?_⟩
    obtain ⟨b', o', e, _, _, h⟩ := h3 j _ (List.getElem?_eq_getElem hj)
    cases e; exact h
theorem RdX.of_own {f : α → List Value} {k : Nat} (hk : ∀ x, (f x).length = k) {e : TypeId} {W : World} {B : Nat} {v : Value} {xs : List α} (h : W.ownsRow B e k v xs.length (xs.flatMap f)) : RdX (fun b => B ≤ b ∧ b < W.heap.size) f k W v xs := by
  have h' := h
  obtain ⟨_, ⟨rfl, h0⟩ | ⟨g, cap, cur, rfl, hg, hh, hc, hm, hs, ht⟩⟩ := h
  · refine ⟨none, 0, by rw [h0], by omega, fun j x hj => ?_⟩
    have : xs = [] := List.eq_nil_of_length_eq_zero h0
    subst this; simp at hj
  · refine ⟨_, cap, rfl, hc, fun j x hj => ⟨g, 0, rfl, h'.lt g rfl, (h'.lt g rfl).2, fun i u hu => ?_⟩⟩
    have := h'.cells (g := g) rfl (j * k + i) u (flat_at hk xs j x hj i u hu)
    have e : (⟨g, 0, none⟩ : Addr).add (j * k + i) = ⟨g, 0 + j * k + i, none⟩ := by
      unfold Addr.add; split <;> simp_all <;> omega
    rw [← e]; exact this
end
def numL (n : Nat) : List Value := [.int .i64 n]
theorem own_len {W : World} {B : Nat} {e : TypeId} {k n m : Nat} {v : Value} {xs : List Value} (h : W.ownsRow B e k v n xs) (he : n = m) : W.ownsRow B e k v m xs := he ▸ h
/-- Pages, and then the law's pages: the numbers and the pages. -/
def HasPgs (w W : World) (X : Nat → Prop) (c : Nat) (st : Chip) (ps : List (List UInt8)) (e : Ending) (W' : World) : Prop :=
  ∃ ao cp bo cq, e = .returned (.tuple #[.slice ao ps.length cp, .slice bo ps.length cq]) ∧ Has w W' (fun b => X b ∨ (W.heap.size ≤ b ∧ b < W'.heap.size)) c st ∧
    RdX (fun b => W.heap.size ≤ b ∧ b < W'.heap.size) numL 1 W' (.slice ao ps.length cp) (List.range ps.length) ∧ RdX (fun b => W.heap.size ≤ b ∧ b < W'.heap.size) pgL 288 W' (.slice bo ps.length cq) ps ∧ Below W.heap.size W W'
theorem has_pages21 {w W W1 : World} {X : Nat → Prop} {c : Nat} {st : Chip} {ps : List (List UInt8)} {Bl : Nat} {la : Option Addr} {lc : Nat} (hH : Has w W X c st) (hb1 : Below W.heap.size W W1) (h32 : ps.length ≤ 32) (hbx : Box W1 Bl 56 #[.slice la ps.length lc]) (hrd : RdC pgL 288 W1 (.slice la ps.length lc) ps) (hla : ∀ b o, la = some ⟨b, o, none⟩ → W.heap.size ≤ b ∧ b < W1.heap.size) :
    Calls Try.prog 21 #[.func (.func 55) #[] #[.pointer (some ⟨Bl, 0, none⟩)], .int .i64 99] W1 (HasPgs w W1 X c st ps) := by
  refine (seqPg_pages (w := W) (W1 := W1) 99 h32 (by omega) hbx hrd hla).mono ?_
  rintro e W' ⟨ao, cp, bo, cq, rfl, hno, hlo, hb⟩
  have hl : (ps.zipIdx.take 99).length = ps.length := by rw [List.length_take, List.length_zipIdx]; omega
  have ht : ps.zipIdx.take 99 = ps.zipIdx := List.take_of_length_le (by rw [List.length_zipIdx]; omega)
  rw [hl] at hno hlo
  rw [hl]
  rw [ht] at hno hlo
  have e1 : (ps.zipIdx.map fun x => Value.int .i64 (x.2 : Nat)) = (List.range ps.length).flatMap numL := by
    have : (ps.zipIdx.map fun x => Value.int .i64 (x.2 : Nat)) = (ps.zipIdx.map Prod.snd).map fun n => Value.int .i64 ((n : Nat) : Int) := by rw [List.map_map]; rfl
    rw [this, List.zipIdx_map_snd, List.range_eq_range']
    unfold numL
    induction (List.range' 0 ps.length) with
    | nil => rfl
    | cons a r ih => rw [List.map_cons, List.flatMap_cons, ih]; rfl
  have e2 : (ps.zipIdx.flatMap fun x => pgL x.1) = ps.flatMap pgL := by
    have : (ps.zipIdx.flatMap fun x => pgL x.1) = (ps.zipIdx.map Prod.fst).flatMap pgL := by rw [List.flatMap_map]
    rw [this, List.zipIdx_map_fst]
  rw [e1] at hno
  rw [e2] at hlo
  have hH1 := hH.below hb1
  have r1 : (List.range ps.length).length = ps.length := List.length_range
  have q1 := RdX.of_own (k := 1) (f := numL) (fun _ => rfl) (own_len hno r1.symm)
  have q2 := RdX.of_own pgL_len hlo
  exact ⟨ao, cp, bo, cq, rfl, hH1.add hb (fun b hb => by rcases hb with hb | hb; exact .inl hb; exact .inr hb), by have q := q1; unfold RdX at q ⊢; exact q, q2, hb⟩
/-- A page of a row of the law's own, loaded. -/
theorem RdX.load {X : Nat → Prop} {W : World} {b o n cq : Nat} {ps : List (List UInt8)} (h : RdX X pgL 288 W (.slice (some ⟨b, o, none⟩) n cq) ps) (h288 : ∀ p ∈ ps, p.length = 288) (j : Nat) (hj : j < ps.length) : (loadVar 48 ⟨b, o + j * 288, none⟩).run Try.prog W = .ok (pgV ps[j]) W := by
  obtain ⟨a, cap, h1, h2, h3⟩ := h
  cases h1
  obtain ⟨b', o', e, _, _, hc⟩ := h3 j _ (List.getElem?_eq_getElem hj)
  cases e
  have hl := h288 _ (List.getElem_mem hj)
  exact loadPg_at W b (o + j * 288) _ hl (fun i u hu => hc i u (by rw [pgL_eq hl]; exact hu))
theorem read_len {w W : World} {X : Nat → Prop} {c : Nat} {st : Chip} (h : Has w W X c st) (n p : Int) : (st.readAt n p).1.length = 288 := by
  obtain ⟨Fm, Fr, L, hC, hge, hX, hw⟩ := h
  exact readAt_len hC n p
theorem does_len {w W : World} {X : Nat → Prop} {c : Nat} {st : Chip} (h : Has w W X c st) (q : Cl) : (st.does q).1.1.length = 288 := by
  unfold Chip.does
  split
  · exact rep_len _ _
  split
  · exact rep_len _ _
  split
  · exact read_len h _ _
  split <;> exact rep_len _ _
end Go.Proofs.Ytlgjlhgdpiipbaa
