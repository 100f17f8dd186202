/- A chip, plainly; how it lies in memory: blocks that its calls may change, and blocks that stay. -/
import Derived.Test.YtlgjlhgdpiipbaaG
namespace Go.Proofs.Ytlgjlhgdpiipbaa
open Go.RowKit
/-- Nothing but some old blocks has changed. -/
structure Kept (F : Nat → Prop) (W W' : World) : Prop where
  os : W'.os = W.os
  tape : W'.tape = W.tape
  output : W'.output = W.output
  size : W.heap.size ≤ W'.heap.size
  block : ∀ b, b < W.heap.size → ¬ F b → W'.heap[b]? = W.heap[b]?
theorem Kept.refl (F : Nat → Prop) (W : World) : Kept F W W := ⟨rfl, rfl, rfl, Nat.le_refl _, fun _ _ _ => rfl⟩
theorem Kept.trans {F G : Nat → Prop} {A B C : World} (h : Kept F A B) (k : Kept G B C) (hg : ∀ b, G b → F b ∨ A.heap.size ≤ b) : Kept F A C :=
  ⟨k.os.trans h.os, k.tape.trans h.tape, k.output.trans h.output, Nat.le_trans h.size k.size, fun b hb hF => (k.block b (Nat.lt_of_lt_of_le hb h.size) (fun hG => by rcases hg b hG with h1 | h1; exact hF h1; omega)).trans (h.block b hb hF)⟩
theorem Kept.of_below {F : Nat → Prop} {W W' : World} (h : Below W.heap.size W W') : Kept F W W' := ⟨h.os, h.tape, h.output, h.size, fun b hb _ => h.block b hb⟩
theorem Kept.mono {F G : Nat → Prop} {W W' : World} (h : Kept F W W') (hg : ∀ b, F b → G b) : Kept G W W' := ⟨h.os, h.tape, h.output, h.size, fun b hb hG => h.block b hb (fun hF => hG (hg b hF))⟩
theorem Kept.below {F : Nat → Prop} {W W' : World} {B : Nat} (h : Kept F W W') (hF : ∀ b, F b → B ≤ b) (hB : B ≤ W.heap.size) : Below B W W' :=
  ⟨h.os, h.tape, h.output, h.size, fun b hb => h.block b (by omega) (fun hf => by have := hF b hf; omega)⟩
theorem Kept.of_grown {F : Nat → Prop} {W W' : World} {b : Nat} (h : W.grownBy W' (some b)) (hF : F b) : Kept F W W' :=
  ⟨h.os, h.tape, h.output, h.size, fun k hk hf => h.block k hk (fun e => by cases e; exact hf hF)⟩
theorem Kept.of_set {F : Nat → Prop} {W : World} (b j : Nat) (v : Value) (hF : F b) : Kept F W (W.setCell ⟨b, j, none⟩ v) :=
  ⟨rfl, rfl, rfl, by simp [World.setCell], fun k _ hf => Below.heap_setCell W ⟨b, j, none⟩ v k (fun e => by subst e; exact hf hF)⟩
theorem Box.kept {F : Nat → Prop} {W W' : World} {b : Nat} {t : TypeId} {vs : Array Value} (h : Box W b t vs) (hk : Kept F W W') (hF : ¬ F b) : Box W' b t vs := (hk.block b h.lt hF).trans h
theorem Box.ne {W : World} {a b : Nat} {t u : TypeId} {vs us : Array Value} (h : Box W a t vs) (k : Box W b u us) (hne : t ≠ u) : a ≠ b := by
  intro e; subst e
  have h : W.heap[a]? = some (.cells vs t (0, 0)) := h
  have k : W.heap[a]? = some (.cells us u (0, 0)) := k
  rw [h] at k
  cases k
  exact hne rfl
/-- These blocks are as they were. -/
def Same (R : Nat → Prop) (W W' : World) : Prop := (∀ b, R b → W'.heap[b]? = W.heap[b]?) ∧ W.heap.size ≤ W'.heap.size
theorem Same.refl (R : Nat → Prop) (W : World) : Same R W W := ⟨fun _ _ => rfl, Nat.le_refl _⟩
theorem Same.trans {R : Nat → Prop} {A B C : World} (h : Same R A B) (k : Same R B C) : Same R A C := ⟨fun b hb => (k.1 b hb).trans (h.1 b hb), Nat.le_trans h.2 k.2⟩
theorem Kept.same {F R : Nat → Prop} {W W' : World} (h : Kept F W W') (hR : ∀ b, R b → b < W.heap.size ∧ ¬ F b) : Same R W W' := ⟨fun b hb => h.block b (hR b hb).1 (hR b hb).2, h.size⟩
theorem Box.same {R : Nat → Prop} {W W' : World} {b : Nat} {t : TypeId} {vs : Array Value} (h : Box W b t vs) (hs : Same R W W') (hR : R b) : Box W' b t vs := (hs.1 b hR).trans h
/-- What is known of a block. -/
structure Look where
  wear : Int
  next : Int
  bad : Bool
def zeroLook : Look := ⟨0, 0, false⟩
def lookA (l : Look) : Array Value := #[.int .i64 l.wear, .int .i64 l.next, .bool l.bad]
def lookV (l : Look) : Value := .agg (lookA l)
structure Blk where
  pages : Nat → List UInt8
  look : Look
/-- What happens in the operation of a number. -/
structure Ev where
  at_ : Int
  kind : Int
  mask : List UInt8
structure Chip where
  bn : Nat
  pn : Nat
  blk : Nat → Blk
  evs : List Ev
  ops : Int
  off : Bool
def Chip.setBlk (st : Chip) (n : Nat) (b : Blk) : Chip := { st with blk := fun i => if i = n then b else st.blk i }
def ptr (b : Nat) : Value := .pointer (some ⟨b, 0, none⟩)
/-- Events, read; they lie in blocks that stay. -/
def EvS (W : World) (R : Nat → Prop) (v : Value) (evs : List Ev) : Prop :=
  ∃ a cap, v = .slice a evs.length cap ∧ evs.length ≤ cap ∧ ∀ j e, evs[j]? = some e → ∃ b o mv, a = some ⟨b, o, none⟩ ∧ b < W.heap.size ∧ R b ∧
    W.cell? ⟨b, o + j * 3, none⟩ = some (.int .i64 e.at_) ∧ W.cell? ⟨b, o + j * 3 + 1, none⟩ = some (.int .i64 e.kind) ∧ W.cell? ⟨b, o + j * 3 + 2, none⟩ = some mv ∧ ∀ W', Same R W W' → RdB W' mv e.mask
theorem cell_of_heap {W W' : World} {b : Nat} (h : W'.heap[b]? = W.heap[b]?) (o : Nat) : W'.cell? ⟨b, o, none⟩ = W.cell? ⟨b, o, none⟩ := by
  unfold World.cell?
  dsimp only
  rw [h]
theorem EvS.same {W W' : World} {R : Nat → Prop} {v : Value} {evs : List Ev} (h : EvS W R v evs) (hs : Same R W W') : EvS W' R v evs := by
  obtain ⟨a, cap, h1, h2, h3⟩ := h
  refine ⟨a, cap, h1, h2, fun j e he => ?_⟩
  obtain ⟨b, o, mv, k1, k2, k3, k4, k5, k6, k7⟩ := h3 j e he
  have hb := hs.1 b k3
  exact ⟨b, o, mv, k1, Nat.lt_of_lt_of_le k2 hs.2, k3, (cell_of_heap hb _).trans k4, (cell_of_heap hb _).trans k5, (cell_of_heap hb _).trans k6, fun W2 h2 => k7 W2 (hs.trans h2)⟩
theorem EvS.nil (W : World) (R : Nat → Prop) (a : Option Addr) (c : Nat) : EvS W R (.slice a 0 c) [] := ⟨a, c, rfl, Nat.zero_le _, fun j e h => by simp at h⟩
theorem EvS.tail {W : World} {R : Nat → Prop} {b o n cap : Nat} {e : Ev} {evs : List Ev} (h : EvS W R (.slice (some ⟨b, o, none⟩) n cap) (e :: evs)) (hc : cap ≠ 1) : EvS W R (.slice (some ⟨b, o + 3, none⟩) (n - 1) (cap - 1)) evs := by
  obtain ⟨a, cap', h1, h2, h3⟩ := h
  cases h1
  refine ⟨some ⟨b, o + 3, none⟩, cap - 1, by simp, by simp at h2; omega, fun j e' he => ?_⟩
  obtain ⟨b', o', mv, k1, k2, k3, k4, k5, k6, k7⟩ := h3 (j + 1) e' (by simpa using he)
  cases k1
  have e1 : o + (j + 1) * 3 = o + 3 + j * 3 := by omega
  rw [e1] at k4 k5 k6
  exact ⟨b, o + 3, mv, rfl, k2, k3, k4, k5, k6, k7⟩
/-- Where a chip's parts lie. -/
structure Lay where
  ba : Nat
  barr : Array Value
  ev : Value
  k : Nat → Nat
  p : Nat → Nat
  parr : Nat → Array Value
  q : Nat → Nat → Nat
def blkA (L : Lay) (st : Chip) (i : Nat) : Array Value := #[.slice (some ⟨L.p i, 0, none⟩) st.pn (L.parr i).size, .int .i64 (st.blk i).look.wear, .int .i64 (st.blk i).look.next, .bool (st.blk i).look.bad]
def chipA (L : Lay) (st : Chip) : Array Value := #[.int .i64 st.bn, .int .i64 st.pn, .slice (some ⟨L.ba, 0, none⟩) st.bn L.barr.size, L.ev, .int .i64 st.ops, .bool st.off]
/-- A chip in memory: Fm are the blocks that its calls may change, Fr those that stay. -/
structure ChipR (W : World) (Fm Fr : Nat → Prop) (c : Nat) (st : Chip) (L : Lay) : Prop where
  chip : Box W c 77 (chipA L st)
  row : Box W L.ba 81 L.barr
  rowAt : ∀ i, i < st.bn → L.barr[i]? = some (ptr (L.k i))
  blk : ∀ i, i < st.bn → Box W (L.k i) 84 (blkA L st i)
  prow : ∀ i, i < st.bn → Box W (L.p i) 85 (L.parr i)
  prowAt : ∀ i, i < st.bn → ∀ j, j < st.pn → (L.parr i)[j]? = some (ptr (L.q i j))
  byt : ∀ i, i < st.bn → ∀ j, j < st.pn → Box W (L.q i j) 110 (cellsB ((st.blk i).pages j))
  len : ∀ i, i < st.bn → ∀ j, j < st.pn → ((st.blk i).pages j).length = 288
  kinj : ∀ i, i < st.bn → ∀ i', i' < st.bn → L.k i = L.k i' → i = i'
  pinj : ∀ i, i < st.bn → ∀ i', i' < st.bn → L.p i = L.p i' → i = i'
  qinj : ∀ i, i < st.bn → ∀ j, j < st.pn → ∀ i', i' < st.bn → ∀ j', j' < st.pn → L.q i j = L.q i' j' → i = i' ∧ j = j'
  evs : EvS W Fr L.ev st.evs
  fc : Fm c
  fk : ∀ i, i < st.bn → Fm (L.k i)
  fp : ∀ i, i < st.bn → Fm (L.p i)
  fq : ∀ i, i < st.bn → ∀ j, j < st.pn → Fm (L.q i j)
  fba : Fr L.ba
  disj : ∀ b, Fm b → ¬ Fr b
  ltm : ∀ b, Fm b → b < W.heap.size
  ltr : ∀ b, Fr b → b < W.heap.size
  bnd : 0 < st.bn ∧ st.bn ≤ 256 ∧ 0 < st.pn ∧ st.pn ≤ 32
  opsb : 0 ≤ st.ops ∧ st.ops ≤ 1000000
theorem ChipR.same {W W' : World} {Fm Fr : Nat → Prop} {c : Nat} {st : Chip} {L : Lay} (h : ChipR W Fm Fr c st L) (hs : Same (fun b => Fm b ∨ Fr b) W W') : ChipR W' Fm Fr c st L where
  chip := h.chip.same hs (.inl h.fc)
  row := h.row.same hs (.inr h.fba)
  rowAt := h.rowAt
  blk i hi := (h.blk i hi).same hs (.inl (h.fk i hi))
  prow i hi := (h.prow i hi).same hs (.inl (h.fp i hi))
  prowAt := h.prowAt
  byt i hi j hj := (h.byt i hi j hj).same hs (.inl (h.fq i hi j hj))
  len := h.len
  kinj := h.kinj
  pinj := h.pinj
  qinj := h.qinj
  evs := h.evs.same ⟨fun b hb => hs.1 b (.inr hb), hs.2⟩
  fc := h.fc
  fk := h.fk
  fp := h.fp
  fq := h.fq
  fba := h.fba
  disj := h.disj
  ltm b hb := Nat.lt_of_lt_of_le (h.ltm b hb) hs.2
  ltr b hb := Nat.lt_of_lt_of_le (h.ltr b hb) hs.2
  bnd := h.bnd
  opsb := h.opsb
theorem ChipR.below {W W' : World} {Fm Fr : Nat → Prop} {c : Nat} {st : Chip} {L : Lay} (h : ChipR W Fm Fr c st L) (hb : Below W.heap.size W W') : ChipR W' Fm Fr c st L :=
  h.same ⟨fun b hF => hb.block b (by rcases hF with hF | hF; exact h.ltm b hF; exact h.ltr b hF), hb.size⟩
end Go.Proofs.Ytlgjlhgdpiipbaa
