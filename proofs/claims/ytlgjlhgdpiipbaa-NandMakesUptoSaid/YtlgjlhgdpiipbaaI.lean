/- Slices of bytes and of texts in memory: what is read of them, what an append leaves. -/
import Derived.Test.YtlgjlhgdpiipbaaS
import Derived.Laws.BytesArg
import Derived.Lib.AppendStr
import Derived.Deep.AppendLies
namespace Go.Proofs.Ytlgjlhgdpiipbaa
open Go.RowKit
variable {α : Type}
theorem strOfNums_bytes (l : List UInt8) : strOfNums (l.map fun c => (c.toNat : Int)) = S l := by
  unfold strOfNums S
  congr 2
  rw [List.map_map]
  exact (List.map_congr_left (fun c _ => by simp)).trans (List.map_id l)
/-- What a slice value reads as: a list of elements of one cell each. -/
def Rd (enc : α → Value) (W : World) (v : Value) (xs : List α) : Prop :=
  ∃ a cap, v = .slice a xs.length cap ∧ xs.length ≤ cap ∧ ∀ j x, xs[j]? = some x → ∃ b o, a = some ⟨b, o, none⟩ ∧ b < W.heap.size ∧ W.cell? ⟨b, o + j, none⟩ = some (enc x)
def byteV (c : UInt8) : Value := .int .u8 c.toNat
def strV (l : List UInt8) : Value := .string (S l)
abbrev RdB := Rd byteV
abbrev RdS := Rd strV
theorem Rd.nil (enc : α → Value) (W : World) : Rd enc W (.slice none 0 0) [] := ⟨none, 0, rfl, Nat.le_refl _, fun j x h => by simp at h⟩
theorem Rd.below {enc : α → Value} {W W' : World} {v : Value} {xs : List α} (h : Rd enc W v xs) (hb : Below W.heap.size W W') : Rd enc W' v xs := by
  obtain ⟨a, cap, h1, h2, h3⟩ := h
  refine ⟨a, cap, h1, h2, fun j x hj => ?_⟩
  obtain ⟨b, o, h4, h5, h6⟩ := h3 j x hj
  exact ⟨b, o, h4, Nat.lt_of_lt_of_le h5 hb.size, by rw [hb.cell (p := ⟨b, o + j, none⟩) h5]; exact h6⟩
theorem Rd.drewN {enc : α → Value} {W : World} {v : Value} {xs : List α} (h : Rd enc W v xs) (n : Nat) : Rd enc (W.drewN n) v xs := h
theorem Rd.of_own {enc : α → Value} {W : World} {B : Nat} {e : TypeId} {v : Value} {xs : List α} (h : W.ownsRow B e 1 v xs.length (xs.map enc)) : Rd enc W v xs := by
  have h' := h
  obtain ⟨_, ⟨rfl, h0⟩ | ⟨g, cap, cur, rfl, hg, hh, hc, hm, hs, ht⟩⟩ := h
  · refine ⟨none, 0, by rw [h0], by omega, fun j x hj => ?_⟩
    have : xs = [] := List.eq_nil_of_length_eq_zero h0
    subst this; simp at hj
  · refine ⟨_, cap, rfl, hc, fun j x hj => ⟨g, 0, rfl, (h'.lt g rfl).2, ?_⟩⟩
    have := h'.cells (g := g) rfl j (enc x) (by simp [hj])
    simpa [Addr.add] using (by
      by_cases h0 : j = 0
      · subst h0; simpa [Addr.add] using this
      · simpa [Addr.add, h0] using this)
theorem convert_rd {P : Program} {src e : TypeId} (hs : P.underlying src = some (.slice e)) (he : P.underlying e = some (.int .u8)) {dst : TypeId} (hd : P.underlying dst = some .string) {W : World} {v : Value} {l : List UInt8}
    (h : RdB W v l) : (convert src dst v).run P W = .ok (.string (S l)) W := by
  obtain ⟨a, cap, rfl, hc, h3⟩ := h
  cases l with
  | nil =>
    cases a with
    | none => exact run_convert_bytes_nil W src e hs he _ _ dst hd
    | some a =>
      rw [run_convert_bytes_string W src dst e _ _ cap hs he hd]
      have := run_bytesToString (P := P) W a 0 cap [] (by simp [loadCells]; rfl)
      rw [List.length_nil]; rw [this]; rfl
  | cons c l =>
    obtain ⟨b, o, rfl, _, _⟩ := h3 0 c rfl
    have := run_convert_bytes_arg (P := P) W src e hs he b o (c :: l).length cap ((c :: l).map fun c => (c.toNat : Int)) (by simp) (fun i hi => by
      obtain ⟨b', o', e', _, hcell⟩ := h3 i (c :: l)[i] (List.getElem?_eq_getElem hi)
      cases e'
      rw [hcell, List.getD_eq_getElem?_getD, List.getElem?_map, List.getElem?_eq_getElem hi]; rfl) dst hd
    rw [this, strOfNums_bytes]
theorem below_push {w wr w1 : World} {B : Nat} {e sz : Nat} {u : Value} {n : Nat} {xs : List Value} {o : Obj} (hW : Below B w wr) (hB : B ≤ w.heap.size) (hown : wr.ownsRow B e sz u n xs)
    (hg : ((wr.alloc o).drew).grownBy w1 u.ownBlock) : Below B w w1 :=
  ((hW.alloc (Nat.le_trans hB hW.size) o).drew).grown hg (by have := hW.size; simp; omega) (fun k hk => (hown.lt k hk).1)
theorem below_push' {w wr w1 : World} {B : Nat} {e sz : Nat} {u : Value} {n : Nat} {xs : List Value} {o : Obj} (hW : Below B w wr) (hB : B ≤ w.heap.size) (hown : wr.ownsRow B e sz u n xs)
    (hg : (wr.alloc o).grownBy w1 u.ownBlock) : Below B w w1 :=
  (hW.alloc (Nat.le_trans hB hW.size) o).grown hg (by have := hW.size; simp; omega) (fun k hk => (hown.lt k hk).1)
theorem Rd.at {α : Type} {enc : α → Value} {W : World} {v : Value} {xs : List α} (h : Rd enc W v xs) (hx : xs ≠ []) :
    ∃ b o cap, v = .slice (some ⟨b, o, none⟩) xs.length cap ∧ xs.length ≤ cap ∧ b < W.heap.size ∧ ∀ j (hj : j < xs.length), W.cell? ⟨b, o + j, none⟩ = some (enc xs[j]) := by
  obtain ⟨a, cap, rfl, hc, h3⟩ := h
  match xs, hx with
  | x :: xs, _ =>
    obtain ⟨b, o, rfl, hb, _⟩ := h3 0 x rfl
    refine ⟨b, o, cap, rfl, hc, hb, fun j hj => ?_⟩
    obtain ⟨b', o', e, _, h⟩ := h3 j _ (List.getElem?_eq_getElem hj)
    cases e; exact h
theorem Rd.len {α : Type} {enc : α → Value} {W : World} {v : Value} {xs : List α} (h : Rd enc W v xs) : ∃ a cap, v = .slice a xs.length cap := by
  obtain ⟨a, cap, h1, _⟩ := h; exact ⟨a, cap, h1⟩
/-- A text; old blocks are as they were. -/
def TextBelow (l : List UInt8) (w : World) (e : Ending) (w' : World) : Prop := e = .returned (.string (S l)) ∧ Below w.heap.size w w'
theorem below_drewN (w : World) (n : Nat) : Below w.heap.size w (w.drewN n) := ⟨rfl, rfl, rfl, Nat.le_refl _, fun _ _ => rfl⟩
end Go.Proofs.Ytlgjlhgdpiipbaa
