import Derived.WalkKit
import Derived.WalkSpells
import Derived.WalkLawsBesides
import Derived.Lib.Hide
import Derived.IntWalk
import Derived.Laws.BitsAllLaws
import Derived.Laws.BytesArg
import Derived.Lib.AppendStr
import Derived.Deep.AppendLies
import Derived.Test.YtlgjlhgdpiipbaaProg
import Derived.Deep.WholeRow
import Derived.Laws.CopyRow
import Derived.Deep.CutBlock
import Derived.Deep.RegionHeld3
import Derived.Deep.DeepCutAuto
/- Strings as lists of bytes: laws of the walk on 'S l'. -/
namespace Go.Proofs.Ytlgjlhgdpiipbaa
open Go.RowKit
def S (l : List UInt8) : ByteArray := ⟨l.toArray⟩
theorem S_data (l : List UInt8) : (S l).data.toList = l := rfl
theorem S_of (s : ByteArray) : s = S s.data.toList := by cases s; rfl
@[go_sem, simp] theorem S_size (l : List UInt8) : (S l).size = l.length := by simp [S, ByteArray.size]
@[go_sem, simp] theorem S_toList (l : List UInt8) : (S l).toList = l := by
  rw [ByteArray.toList_eq]; rfl
@[go_sem, simp] theorem S_append (a b : List UInt8) : S a ++ S b = S (a ++ b) := by
  show (⟨a.toArray⟩ : ByteArray) ++ ⟨b.toArray⟩ = ⟨(a ++ b).toArray⟩
  rw [ByteArray.ext_iff]; simp
theorem S_extract (l : List UInt8) (i j : Nat) : (S l).extract i j = S ((l.take j).drop i) := by
  rw [ByteArray.ext_iff]
  show ((⟨l.toArray⟩ : ByteArray).extract i j).data = ((l.take j).drop i).toArray
  simp [List.drop_take]
section
variable {P : Program} (w : World)
def outOf (s : Sem Value) (P : Program) (w : World) : Result Value := s.run P w
@[go_sem ↓] theorem run_index_S (t : TypeId) (l : List UInt8) (k : IntKind) (i : Int) (h : P.underlying t = some .string) :
    (Instr.index t (.string (S l)) (.int k i)).run P w = if 0 ≤ i ∧ i < l.length then .ok (.int .u8 (l.getD i.toNat 0).toNat) w else outOf (Instr.index t (.string (S l)) (.int k i)) P w := by
  by_cases hi : 0 ≤ i ∧ i < l.length
  · rw [if_pos hi, run_index_string w t _ k i h, dif_pos (by simp; omega)]
    congr 3
    have hi : i.toNat < l.length := by omega
    simp only [List.getD_eq_getElem?_getD, List.getElem?_eq_getElem hi, Option.getD_some]
    rfl
  · rw [if_neg hi]; rfl
@[go_sem ↓] theorem run_slice_S_l (t : TypeId) (l : List UInt8) (k : IntKind) (i : Int) (h : P.underlying t = some .string) :
    (Instr.slice t (.string (S l)) (some (.int k i)) none none).run P w = if 0 ≤ i ∧ i ≤ l.length then .ok (.string (S (l.drop i.toNat))) w else outOf (Instr.slice t (.string (S l)) (some (.int k i)) none none) P w := by
  by_cases hi : 0 ≤ i ∧ i ≤ l.length
  · rw [if_pos hi, run_slice_string_l (P := P) w t (S l) h k i hi.1 (by simp; omega), S_extract]; simp
  · rw [if_neg hi]; rfl
@[go_sem ↓] theorem run_slice_S_h (t : TypeId) (l : List UInt8) (k : IntKind) (j : Int) (h : P.underlying t = some .string) :
    (Instr.slice t (.string (S l)) none (some (.int k j)) none).run P w = if 0 ≤ j ∧ j ≤ l.length then .ok (.string (S (l.take j.toNat))) w else outOf (Instr.slice t (.string (S l)) none (some (.int k j)) none) P w := by
  by_cases hi : 0 ≤ j ∧ j ≤ l.length
  · rw [if_pos hi, run_slice_string_h (P := P) w t (S l) h k j hi.1 (by simp; omega), S_extract]; simp
  · rw [if_neg hi]; rfl
@[go_sem ↓] theorem run_slice_S (t : TypeId) (l : List UInt8) (k k' : IntKind) (i j : Int) (h : P.underlying t = some .string) :
    (Instr.slice t (.string (S l)) (some (.int k i)) (some (.int k' j)) none).run P w = if 0 ≤ i ∧ i ≤ j ∧ j ≤ l.length then .ok (.string (S ((l.take j.toNat).drop i.toNat))) w else outOf (Instr.slice t (.string (S l)) (some (.int k i)) (some (.int k' j)) none) P w := by
  by_cases hi : 0 ≤ i ∧ i ≤ j ∧ j ≤ l.length
  · rw [if_pos hi, run_slice_string_if w t (S l) k k' i j h, if_pos (by simp; omega), if_pos (by omega), S_extract]
  · rw [if_neg hi]; rfl
@[go_sem ↓ high] theorem run_index_S0 (t : TypeId) (c : UInt8) (l : List UInt8) (k : IntKind) (h : P.underlying t = some .string) :
    (Instr.index t (.string (S (c :: l))) (.int k 0)).run P w = .ok (.int .u8 c.toNat) w := by
  rw [run_index_S w t _ k 0 h, if_pos ⟨by omega, by (first | (simp; done) | (simp; omega))⟩]; rfl
@[go_sem ↓ high] theorem run_index_S1 (t : TypeId) (b c : UInt8) (l : List UInt8) (k : IntKind) (h : P.underlying t = some .string) :
    (Instr.index t (.string (S (b :: c :: l))) (.int k 1)).run P w = .ok (.int .u8 c.toNat) w := by
  rw [run_index_S w t _ k 1 h, if_pos ⟨by omega, by (first | (simp; done) | (simp; omega))⟩]; rfl
@[go_sem ↓ high] theorem run_slice_S1 (t : TypeId) (c : UInt8) (l : List UInt8) (k : IntKind) (h : P.underlying t = some .string) :
    (Instr.slice t (.string (S (c :: l))) (some (.int k 1)) none none).run P w = .ok (.string (S l)) w := by
  rw [run_slice_S_l w t _ k 1 h, if_pos ⟨by omega, by (first | (simp; done) | (simp; omega))⟩]; rfl
@[go_sem ↓ high] theorem run_slice_S2 (t : TypeId) (b c : UInt8) (l : List UInt8) (k : IntKind) (h : P.underlying t = some .string) :
    (Instr.slice t (.string (S (b :: c :: l))) (some (.int k 2)) none none).run P w = .ok (.string (S l)) w := by
  rw [run_slice_S_l w t _ k 2 h, if_pos ⟨by omega, by (first | (simp; done) | (simp; omega))⟩]; rfl
@[go_sem ↓ high] theorem run_slice_S3 (t : TypeId) (a b c : UInt8) (l : List UInt8) (k : IntKind) (h : P.underlying t = some .string) :
    (Instr.slice t (.string (S (a :: b :: c :: l))) (some (.int k 3)) none none).run P w = .ok (.string (S l)) w := by
  rw [run_slice_S_l w t _ k 3 h, if_pos ⟨by omega, by (first | (simp; done) | (simp; omega))⟩]; rfl
end
theorem byte_ne (c d : UInt8) (h : c ≠ d) : ((c.toNat : Int) == (d.toNat : Int)) = false := by
  rw [beq_eq_false_iff_ne]; intro e; exact h (UInt8.toNat_inj.1 (by omega))
theorem byte_eq (c d : UInt8) (h : c = d) : ((c.toNat : Int) == (d.toNat : Int)) = true := by subst h; simp
theorem byte_bne (c d : UInt8) (h : c ≠ d) : ((c.toNat : Int) != (d.toNat : Int)) = true := by
  rw [bne_iff_ne]; intro e; exact h (UInt8.toNat_inj.1 (by omega))
end Go.Proofs.Ytlgjlhgdpiipbaa
/- Slices of bytes and of texts in memory: what is read of them, what an append leaves. -/
namespace Go.Proofs.Ytlgjlhgdpiipbaa
open Go.RowKit
variable {α : Type}
theorem strOfNums_bytes (l : List UInt8) : strOfNums (l.map fun c => (c.toNat : Int)) = S l := by
  unfold strOfNums S
  congr 2
  rw [List.map_map]
  exact (List.map_congr_left (fun c _ => by simp)).trans (List.map_id l)
/-- What a slice value reads as: a list of elements of one cell each. -/
def Rd (enc : α → Value) (W : World) (v : Value) (xs : List α) : Prop :=
  ∃ a cap, v = .slice a xs.length cap ∧ xs.length ≤ cap ∧ ∀ j x, xs[j]? = some x → ∃ b o, a = some ⟨b, o, none⟩ ∧ b < W.heap.size ∧ W.cell? ⟨b, o + j, none⟩ = some (enc x)
def byteV (c : UInt8) : Value := .int .u8 c.toNat
def strV (l : List UInt8) : Value := .string (S l)
abbrev RdB := Rd byteV
abbrev RdS := Rd strV
theorem Rd.nil (enc : α → Value) (W : World) : Rd enc W (.slice none 0 0) [] := ⟨none, 0, rfl, Nat.le_refl _, fun j x h => by simp at h⟩
theorem Rd.below {enc : α → Value} {W W' : World} {v : Value} {xs : List α} (h : Rd enc W v xs) (hb : Below W.heap.size W W') : Rd enc W' v xs := by
  obtain ⟨a, cap, h1, h2, h3⟩ := h
  refine ⟨a, cap, h1, h2, fun j x hj => ?_⟩
  obtain ⟨b, o, h4, h5, h6⟩ := h3 j x hj
  exact ⟨b, o, h4, Nat.lt_of_lt_of_le h5 hb.size, by rw [hb.cell (p := ⟨b, o + j, none⟩) h5]; exact h6⟩
theorem Rd.drewN {enc : α → Value} {W : World} {v : Value} {xs : List α} (h : Rd enc W v xs) (n : Nat) : Rd enc (W.drewN n) v xs := h
theorem Rd.of_own {enc : α → Value} {W : World} {B : Nat} {e : TypeId} {v : Value} {xs : List α} (h : W.ownsRow B e 1 v xs.length (xs.map enc)) : Rd enc W v xs := by
  have h' := h
  obtain ⟨_, ⟨rfl, h0⟩ | ⟨g, cap, cur, rfl, hg, hh, hc, hm, hs, ht⟩⟩ := h
  · refine ⟨none, 0, by rw [h0], by omega, fun j x hj => ?_⟩
    have : xs = [] := List.eq_nil_of_length_eq_zero h0
    subst this; simp at hj
  · refine ⟨_, cap, rfl, hc, fun j x hj => ⟨g, 0, rfl, (h'.lt g rfl).2, ?_⟩⟩
    have := h'.cells (g := g) rfl j (enc x) (by simp [hj])
    simpa [Addr.add] using (by
      by_cases h0 : j = 0
      · subst h0; simpa [Addr.add] using this
      · simpa [Addr.add, h0] using this)
theorem convert_rd {P : Program} {src e : TypeId} (hs : P.underlying src = some (.slice e)) (he : P.underlying e = some (.int .u8)) {dst : TypeId} (hd : P.underlying dst = some .string) {W : World} {v : Value} {l : List UInt8}
    (h : RdB W v l) : (convert src dst v).run P W = .ok (.string (S l)) W := by
  obtain ⟨a, cap, rfl, hc, h3⟩ := h
  cases l with
  | nil =>
    cases a with
    | none => exact run_convert_bytes_nil W src e hs he _ _ dst hd
    | some a =>
      rw [run_convert_bytes_string W src dst e _ _ cap hs he hd]
      have := run_bytesToString (P := P) W a 0 cap [] (by simp [loadCells]; rfl)
      rw [List.length_nil]; rw [this]; rfl
  | cons c l =>
    obtain ⟨b, o, rfl, _, _⟩ := h3 0 c rfl
    have := run_convert_bytes_arg (P := P) W src e hs he b o (c :: l).length cap ((c :: l).map fun c => (c.toNat : Int)) (by simp) (fun i hi => by
      obtain ⟨b', o', e', _, hcell⟩ := h3 i (c :: l)[i] (List.getElem?_eq_getElem hi)
      cases e'
      rw [hcell, List.getD_eq_getElem?_getD, List.getElem?_map, List.getElem?_eq_getElem hi]; rfl) dst hd
    rw [this, strOfNums_bytes]
theorem below_push {w wr w1 : World} {B : Nat} {e sz : Nat} {u : Value} {n : Nat} {xs : List Value} {o : Obj} (hW : Below B w wr) (hB : B ≤ w.heap.size) (hown : wr.ownsRow B e sz u n xs)
    (hg : ((wr.alloc o).drew).grownBy w1 u.ownBlock) : Below B w w1 :=
  ((hW.alloc (Nat.le_trans hB hW.size) o).drew).grown hg (by have := hW.size; simp; omega) (fun k hk => (hown.lt k hk).1)
theorem below_push' {w wr w1 : World} {B : Nat} {e sz : Nat} {u : Value} {n : Nat} {xs : List Value} {o : Obj} (hW : Below B w wr) (hB : B ≤ w.heap.size) (hown : wr.ownsRow B e sz u n xs)
    (hg : (wr.alloc o).grownBy w1 u.ownBlock) : Below B w w1 :=
  (hW.alloc (Nat.le_trans hB hW.size) o).grown hg (by have := hW.size; simp; omega) (fun k hk => (hown.lt k hk).1)
theorem Rd.at {α : Type} {enc : α → Value} {W : World} {v : Value} {xs : List α} (h : Rd enc W v xs) (hx : xs ≠ []) :
    ∃ b o cap, v = .slice (some ⟨b, o, none⟩) xs.length cap ∧ xs.length ≤ cap ∧ b < W.heap.size ∧ ∀ j (hj : j < xs.length), W.cell? ⟨b, o + j, none⟩ = some (enc xs[j]) := by
  obtain ⟨a, cap, rfl, hc, h3⟩ := h
  match xs, hx with
  | x :: xs, _ =>
    obtain ⟨b, o, rfl, hb, _⟩ := h3 0 x rfl
    refine ⟨b, o, cap, rfl, hc, hb, fun j hj => ?_⟩
    obtain ⟨b', o', e, _, h⟩ := h3 j _ (List.getElem?_eq_getElem hj)
    cases e; exact h
theorem Rd.len {α : Type} {enc : α → Value} {W : World} {v : Value} {xs : List α} (h : Rd enc W v xs) : ∃ a cap, v = .slice a xs.length cap := by
  obtain ⟨a, cap, h1, _⟩ := h; exact ⟨a, cap, h1⟩
/-- A text; old blocks are as they were. -/
def TextBelow (l : List UInt8) (w : World) (e : Ending) (w' : World) : Prop := e = .returned (.string (S l)) ∧ Below w.heap.size w w'
theorem below_drewN (w : World) (n : Nat) : Below w.heap.size w (w.drewN n) := ⟨rfl, rfl, rfl, Nat.le_refl _, fun _ _ => rfl⟩
end Go.Proofs.Ytlgjlhgdpiipbaa
/- Blocks by number: what a block holds; rows of bytes. -/
namespace Go.Proofs.Ytlgjlhgdpiipbaa
open Go.RowKit
/-- A block of the call's own. -/
def Box (W : World) (b : Nat) (t : TypeId) (vs : Array Value) : Prop := W.heap[b]? = some (.cells vs t (0, 0))
section
variable {W W' : World} {b : Nat} {t : TypeId} {vs : Array Value}
theorem Box.lt (h : Box W b t vs) : b < W.heap.size := (Array.getElem?_eq_some_iff.1 h).1
theorem Box.cell (h : Box W b t vs) (j : Nat) : W.cell? ⟨b, j, none⟩ = vs[j]? := by
  have h : W.heap[b]? = some (.cells vs t (0, 0)) := h
  simp [World.cell?, h]
theorem Box.get (h : Box W b t vs) (j : Nat) (v : Value) (hv : vs[j]? = some v) : W.cell? ⟨b, j, none⟩ = some v := (h.cell j).trans hv
theorem Box.frozen (h : Box W b t vs) (j : Nat) : W.frozen? ⟨b, j, none⟩ = false := by
  have h : W.heap[b]? = some (.cells vs t (0, 0)) := h
  simp [World.frozen?, h]
theorem Box.below (h : Box W b t vs) (hb : Below W.heap.size W W') : Box W' b t vs := (hb.block b h.lt).trans h
theorem Box.set (h : Box W b t vs) (j : Nat) (v : Value) : Box (W.setCell ⟨b, j, none⟩ v) b t (vs.setIfInBounds j v) := by
  have h : W.heap[b]? = some (.cells vs t (0, 0)) := h
  simp [Box, World.setCell, Array.getElem?_modify, h]
theorem Box.new (W : World) (t : TypeId) (vs : Array Value) : Box (W.alloc (.cells vs t)) W.heap.size t vs := heap_alloc_new W _
theorem Box.alloc (h : Box W b t vs) (o : Obj) : Box (W.alloc o) b t vs := h.below ((Below.refl _ _).alloc (Nat.le_refl _) _)
theorem Box.drew (h : Box W b t vs) : Box W.drew b t vs := h
theorem Box.drewN (h : Box W b t vs) (n : Nat) : Box (W.drewN n) b t vs := h
theorem Box.grown {row : Option Nat} (h : Box W b t vs) (hg : W.grownBy W' row) (hne : some b ≠ row) : Box W' b t vs := (hg.block b h.lt hne).trans h
theorem Box.far (h : Box W b t vs) (p : Addr) (v : Value) (hp : p.block ≠ b) : Box (W.setCell p v) b t vs :=
  (Below.heap_setCell W p v b (fun e => hp e.symm)).trans h
end
/-- Bytes as cells. -/
def cellsB (l : List UInt8) : Array Value := (l.map byteV).toArray
@[simp] theorem cellsB_size (l : List UInt8) : (cellsB l).size = l.length := by simp [cellsB]
theorem cellsB_get (l : List UInt8) (j : Nat) (h : j < l.length) : (cellsB l)[j]? = some (byteV l[j]) := by
  simp [cellsB, h]
theorem cellsB_set (l : List UInt8) (j : Nat) (c : UInt8) : (cellsB l).setIfInBounds j (byteV c) = cellsB (l.set j c) := by
  simp [cellsB, List.map_set]
theorem cellsB_one (l : List UInt8) : (cellsB l).all (·.oneCell') = true := by
  simp [cellsB, byteV, Value.oneCell']
/-- So often the same byte. -/
def rep (n : Nat) (c : UInt8) : List UInt8 := List.replicate n c
@[simp] theorem rep_len (n : Nat) (c : UInt8) : (rep n c).length = n := List.length_replicate
/-- A page whose head is filled. -/
def fillTo (n i : Nat) (c d : UInt8) : List UInt8 := rep i c ++ rep (n - i) d
theorem fillTo_len (n i : Nat) (c d : UInt8) (h : i ≤ n) : (fillTo n i c d).length = n := by unfold fillTo; simp; omega
theorem fillTo_zero (n : Nat) (c d : UInt8) : fillTo n 0 c d = rep n d := by unfold fillTo rep; simp
theorem fillTo_all (n : Nat) (c d : UInt8) : fillTo n n c d = rep n c := by unfold fillTo rep; simp
theorem fillTo_set (n i : Nat) (c d : UInt8) (h : i < n) : (fillTo n i c d).set i c = fillTo n (i + 1) c d := by
  unfold fillTo rep
  rw [List.set_append, if_neg (by simp)]
  simp only [List.length_replicate, Nat.sub_self]
  obtain ⟨m, hm⟩ : ∃ m, n - i = m + 1 := ⟨n - i - 1, by omega⟩
  rw [hm, show n - (i + 1) = m by omega, List.replicate_succ, List.set_cons_zero, List.replicate_succ']
  simp
theorem zero110 (w : World) : (zeroValue 110).run Try.prog w = .ok (.agg (cellsB (rep 288 0))) w := by kernel_rfl
theorem zero48 (w : World) : (zeroValue 48).run Try.prog w = .ok (.agg (cellsB (rep 288 0))) w := by kernel_rfl
theorem size48 : (Try.prog.info? 48).map (·.size) = some 288 := by kernel_rfl
theorem size110 : (Try.prog.info? 110).map (·.size) = some 288 := by kernel_rfl
/-- A page's bytes as a value. -/
def pgV (l : List UInt8) : Value := .agg (cellsB l)
theorem load288 (W : World) (b o : Nat) (l : List UInt8) (hl : l.length = 288) (h : ∀ j (hj : j < l.length), W.cell? ⟨b, o + j, none⟩ = some (byteV l[j])) :
    (loadCellsFrom ⟨b, o, none⟩ 0 288 #[]).run Try.prog W = .ok (cellsB l) W := by
  have := run_loadCells_list (P := Try.prog) W ⟨b, o, none⟩ (l.map byteV) (fun j v hv => by
    have hadd : (⟨b, o, none⟩ : Addr).add j = ⟨b, o + j, none⟩ := by unfold Addr.add; split <;> simp_all
    rw [List.getElem?_map] at hv
    obtain ⟨c, hc, rfl⟩ := Option.map_eq_some_iff.1 hv
    obtain ⟨hj, rfl⟩ := List.getElem?_eq_some_iff.1 hc
    rw [hadd, h j hj])
  rw [List.length_map, hl] at this
  simpa [loadCells, cellsB] using this
theorem Box.load288 {W : World} {b : Nat} {t : TypeId} {l : List UInt8} (h : Box W b t (cellsB l)) (hl : l.length = 288) : (loadCellsFrom ⟨b, 0, none⟩ 0 288 #[]).run Try.prog W = .ok (cellsB l) W :=
  Go.Proofs.Ytlgjlhgdpiipbaa.load288 W b 0 l hl (fun j hj => by rw [Nat.zero_add]; exact h.get j _ (cellsB_get l j hj))
/-- A world with a block's cells laid anew. -/
theorem Box.store288 {W : World} {b : Nat} {t : TypeId} {vs : Array Value} {l : List UInt8} (h : Box W b t vs) (hs : vs.size = l.length) :
    (storeCells ⟨b, 0, none⟩ (cellsB l).toList 0).run Try.prog W = .ok () (W.setRow b (cellsB l)) ∧ Box (W.setRow b (cellsB l)) b t (cellsB l) ∧ W.grownBy (W.setRow b (cellsB l)) (some b) := by
  have h1 := run_storeCells_from (P := Try.prog) b t (cellsB l).toList 0 vs W h (by simp [hs]) (fun v hv => by
    simp [cellsB] at hv
    obtain ⟨c, _, rfl⟩ := hv
    rfl)
  rw [List.take_zero, List.nil_append, Array.toArray_toList] at h1
  exact ⟨h1, setRow_heap W b vs _ t (0, 0) h, rfl, rfl, rfl, by simp [World.setRow], fun k _ hne => setRow_other W b k _ (fun e => hne (by rw [e]))⟩
theorem Box.loadPg {W : World} {b : Nat} {t : TypeId} {l : List UInt8} (h : Box W b t (cellsB l)) (hl : l.length = 288) : (loadVar 48 ⟨b, 0, none⟩).run Try.prog W = .ok (pgV l) W :=
  run_loadVar_row W b t 48 (cellsB l) (0, 0) _ h Try.underlying48 rfl (by rw [cellsB_size, hl]; exact size48)
theorem Box.storePg {W : World} {b : Nat} {t : TypeId} {vs : Array Value} {l : List UInt8} (h : Box W b t vs) (hs : vs.size = 288) (hl : l.length = 288) :
    (storeVar 48 ⟨b, 0, none⟩ (pgV l)).run Try.prog W = .ok () (W.setRow b (cellsB l)) ∧ Box (W.setRow b (cellsB l)) b t (cellsB l) ∧ W.grownBy (W.setRow b (cellsB l)) (some b) := by
  refine ⟨run_storeVar_row W b t 48 vs (cellsB l) h (by rw [cellsB_size, hl]; exact size48) (by rw [hs, cellsB_size, hl]) (cellsB_one l), ?_, ?_⟩
  · exact setRow_heap W b vs _ t (0, 0) h
  · exact ⟨rfl, rfl, rfl, by simp [World.setRow], fun k _ hne => setRow_other W b k _ (fun e => hne (by rw [e]))⟩
/-- A load of a whole variable, by its run. -/
theorem wp_load_var {P : Program} {o : Oper} {a : Act} {w : World} {K : Act → World → Prop} {Q : Exit → Act → World → Prop} (t : TypeId) (x : Operand) (ho : o.op = Op.load t x) (ad : Addr) (hx : a.eval x = .pointer (some ad)) (v : Value)
    (hl : (loadVar t ad).run P w = .ok v w) (hK : K (a.put o.dst v) w) : Oper.wp P o a w K Q := by
  unfold Oper.wp
  simp [execOp, ho, hx, Instr.loadAt, Instr.sureAddr, hl, Result.andThen]
  exact hK
/-- A store of a whole variable, by its run. -/
theorem wp_store_var {P : Program} {o : Oper} {a : Act} {w w' : World} {K : Act → World → Prop} {Q : Exit → Act → World → Prop} (t : TypeId) (x y : Operand) (ho : o.op = Op.store t x y) (ad : Addr) (hx : a.eval x = .pointer (some ad)) (v : Value) (hy : a.eval y = v)
    (hl : (storeVar t ad v).run P w = .ok () w') (hK : K (a.put o.dst undef) w') : Oper.wp P o a w K Q := by
  unfold Oper.wp
  simp [execOp, ho, hx, hy, Instr.storeAt, Instr.sureAddr, hl, Result.andThen]
  exact hK
theorem wpList_load_var {P : Program} {ops : Array Oper} {rest : List Oper} {o : Oper} {a : Act} {w : World} {Q : Exit → Act → World → Prop} (hg : o.guard = none) (t : TypeId) (x : Operand) (ho : o.op = Op.load t x) (ad : Addr) (hx : a.eval x = .pointer (some ad)) (v : Value)
    (hl : (loadVar t ad).run P w = .ok v w) (hK : wpList P ops Q rest (a.put o.dst v) w) : wpList P ops Q (o :: rest) a w :=
  wpList_plain hg fun _ hK' => wp_load_var t x ho ad hx v hl (hK' _ _ hK)
theorem wpList_store_var {P : Program} {ops : Array Oper} {rest : List Oper} {o : Oper} {a : Act} {w w' : World} {Q : Exit → Act → World → Prop} (hg : o.guard = none) (t : TypeId) (x y : Operand) (ho : o.op = Op.store t x y) (ad : Addr) (hx : a.eval x = .pointer (some ad)) (v : Value) (hy : a.eval y = v)
    (hl : (storeVar t ad v).run P w = .ok () w') (hK : wpList P ops Q rest (a.put o.dst undef) w') : wpList P ops Q (o :: rest) a w :=
  wpList_plain hg fun _ hK' => wp_store_var t x y ho ad hx v hy hl (hK' _ _ hK)
end Go.Proofs.Ytlgjlhgdpiipbaa
/- erased, page (of the law), Blank: pages of one byte. -/
namespace Go.Proofs.Ytlgjlhgdpiipbaa
open Go.RowKit
/-- A page's bytes, in a new block. -/
def NewB (l : List UInt8) (w : World) (e : Ending) (w' : World) : Prop := ∃ b, e = .returned (.pointer (some ⟨b, 0, none⟩)) ∧ w.heap.size ≤ b ∧ Box w' b 110 (cellsB l) ∧ Below w.heap.size w w'
set_option maxRecDepth 100000 in
set_option maxHeartbeats 4000000 in
theorem erased_any (w : World) : Calls Try.prog 30 #[] w (NewB (rep 288 255) w) := by
  have hz := zero110
  have bx := Box.new w 110 (cellsB (rep 288 0))
  have hB := (Below.refl w.heap.size w).alloc (Nat.le_refl _) (.cells (cellsB (rep 288 0)) 110)
  obtain ⟨W0, hW0⟩ : ∃ W0, w.alloc (.cells (cellsB (rep 288 0)) 110) = W0 := ⟨_, rfl⟩
  rw [hW0] at bx hB
  go_enter Try.func30, Try.ntmps30
  go_wp2_with fail
  clear hz hW0
  obtain ⟨b, hb⟩ : ∃ b, w.heap.size = b := ⟨_, rfl⟩
  have hbw : w.heap.size ≤ b := by omega
  rw [hb] at bx hB ⊢
  go_loopw [3] (fun i wr => ∃ k : Nat, k ≤ 288 ∧ i = .int .i64 k ∧ Box wr b 110 (cellsB (fillTo 288 k 255 0)) ∧ Below b w wr) (fun i _ => 288 - (intOf i).toNat)
  case atStart => exact ⟨0, by omega, rfl, by rw [fillTo_zero]; exact bx, hB⟩
  case round =>
    clear bx hB
    obtain ⟨k, hk, rfl, bx, hB⟩ := hrel
    by_cases hlt : k < 288
    · have hl := fillTo_len 288 k 255 0 hk
      obtain ⟨x0, c0⟩ : ∃ x, wr.cell? ⟨b, k, none⟩ = some x := ⟨_, bx.get k _ (cellsB_get _ k (by omega))⟩
      have hf := bx.frozen k
      have bx2 := bx.set k (byteV 255)
      rw [cellsB_set, fillTo_set 288 k 255 0 hlt] at bx2
      have hB2 := hB.setCell (p := ⟨b, k, none⟩) (Nat.le_refl _) (byteV 255)
      have hI0 : (0 : Int) ≤ (k : Int) := by omega
      have hI1 : (k : Int) < 288 := by omega
      replace bx2 := Lib.hid bx2
      replace hB2 := Lib.hid hB2
      clear bx hB hl
      go_wp2_with fail
      go_roundw
      case rel => exact ⟨k + 1, by omega, by go_num, bx2.out, hB2.out⟩
      case measure => simp [intOf]; omega
    · have hk' : k = 288 := by omega
      subst hk'
      rw [fillTo_all] at bx
      replace bx := Lib.hid bx
      replace hB := Lib.hid hB
      go_wp2_with fail
      go_ret
      exact ⟨b, rfl, hbw, bx.out, by rw [hb]; exact hB.out⟩
theorem res20 {W : World} {b : Nat} {t : TypeId} {l : List UInt8} (h : Box W b t (cellsB l)) (hl : l.length = 288) {tmps : Array Value} (h2 : tmps.getD 2 undef = .pointer (some ⟨b, 0, none⟩)) :
    (results Try.f20 tmps).run Try.prog W = .ok (pgV l) W := by
  have h3 := h.loadPg hl
  simp at h2
  simp [results, Try.results20, asAddr, h2, h3]
set_option maxRecDepth 100000 in
set_option maxHeartbeats 4000000 in
theorem page_any (c : UInt8) (w : World) : Calls Try.prog 20 #[byteV c] w (fun e w' => e = .returned (pgV (rep 288 c)) ∧ Below w.heap.size w w') := by
  have hz := zero48
  have b1 := (Box.new w 48 (cellsB (rep 288 0))).alloc (.cells (cellsB (rep 288 0)) 48)
  have b2 := Box.new (w.alloc (.cells (cellsB (rep 288 0)) 48)) 48 (cellsB (rep 288 0))
  have hB := (Below.refl w.heap.size w).alloc (Nat.le_refl _) (.cells (cellsB (rep 288 0)) 48)
  replace hB := hB.alloc hB.size (.cells (cellsB (rep 288 0)) 48)
  rw [World.size_alloc] at b2
  obtain ⟨W0, hW0⟩ : ∃ W0, (w.alloc (.cells (cellsB (rep 288 0)) 48)).alloc (.cells (cellsB (rep 288 0)) 48) = W0 := ⟨_, rfl⟩
  rw [hW0] at b1 b2 hB
  unfold byteV
  go_enter Try.func20, Try.ntmps20
  go_wp2_with fail
  clear hz hW0
  obtain ⟨b, hb⟩ : ∃ b, w.heap.size = b := ⟨_, rfl⟩
  rw [hb] at b1 b2 hB ⊢
  go_loopw [6] (fun i wr => ∃ k : Nat, k ≤ 256 ∧ i = .int .i64 k ∧ Box wr b 48 (cellsB (rep 288 0)) ∧ Box wr (b + 1) 48 (cellsB (fillTo 288 (k) c 0)) ∧ Below b w wr) (fun i _ => 256 - (intOf i).toNat)
  case atStart => exact ⟨0, by omega, rfl, b1, by rw [fillTo_zero]; exact b2, hB⟩
  case round =>
    clear b1 b2 hB
    obtain ⟨k, hk, rfl, b1, b2, hB⟩ := hrel
    by_cases hlt : k < 256
    · have hl := fillTo_len 288 (k) c 0 (by omega)
      obtain ⟨x0, c0⟩ : ∃ x, wr.cell? ⟨b + 1, k, none⟩ = some x := ⟨_, b2.get (k) _ (cellsB_get _ (k) (by omega))⟩
      have hf := b2.frozen (k)
      have b3 := b2.set (k) (byteV c)
      rw [cellsB_set, fillTo_set 288 (k) c 0 (by omega)] at b3
      have hB2 := hB.setCell (p := ⟨b + 1, k, none⟩) (by show b ≤ b + 1; omega) (byteV c)
      have b4 := b1.far ⟨b + 1, k, none⟩ (byteV c) (by show b + 1 ≠ b; omega)
      unfold byteV at b3 hB2 b4
      have hI0 : (0 : Int) ≤ (k : Int) := by omega
      have hI1 : (k : Int) < 256 := by omega
      replace b3 := Lib.hid b3
      replace hB2 := Lib.hid hB2
      replace b4 := Lib.hid b4
      clear b1 b2 hB hl
      go_wp2_with fail
      go_roundw
      case rel => exact ⟨k + 1, by omega, by go_num, b4.out, b3.out, hB2.out⟩
      case measure => simp [intOf]; omega
    · have hk' : k = 256 := by omega
      subst hk'
      go_wp2_with fail
      go_loopw [14] (fun i wr => ∃ k : Nat, k ≤ 32 ∧ i = .int .i64 k ∧ Box wr b 48 (cellsB (rep 288 0)) ∧ Box wr (b + 1) 48 (cellsB (fillTo 288 (256 + k) c 0)) ∧ Below b w wr) (fun i _ => 32 - (intOf i).toNat)
      case atStart => exact ⟨0, by omega, rfl, b1, b2, hB⟩
      case round =>
        clear b1 b2 hB
        obtain ⟨k, hk, rfl, b1, b2, hB⟩ := hrel
        by_cases hlt : k < 32
        · have hl := fillTo_len 288 (256 + k) c 0 (by omega)
          obtain ⟨x0, c0⟩ : ∃ x, wr.cell? ⟨b + 1, 256 + k, none⟩ = some x := ⟨_, b2.get (256 + k) _ (cellsB_get _ (256 + k) (by omega))⟩
          have hf := b2.frozen (256 + k)
          have b3 := b2.set (256 + k) (byteV c)
          rw [cellsB_set, fillTo_set 288 (256 + k) c 0 (by omega)] at b3
          have hB2 := hB.setCell (p := ⟨b + 1, 256 + k, none⟩) (by show b ≤ b + 1; omega) (byteV c)
          have b4 := b1.far ⟨b + 1, 256 + k, none⟩ (byteV c) (by show b + 1 ≠ b; omega)
          unfold byteV at b3 hB2 b4
          have hI0 : (0 : Int) ≤ (k : Int) := by omega
          have hI1 : (k : Int) < 32 := by omega
          replace b3 := Lib.hid b3
          replace hB2 := Lib.hid hB2
          replace b4 := Lib.hid b4
          clear b1 b2 hB hl
          go_wp2_with fail
          go_roundw
          case rel => exact ⟨k + 1, by omega, by go_num, b4.out, b3.out, hB2.out⟩
          case measure => simp [intOf]; omega
        · have hk' : k = 32 := by omega
          subst hk'
          rw [show 256 + 32 = 288 from rfl, fillTo_all] at b2
          have hlv := b2.loadPg (rep_len 288 c)
          obtain ⟨hst, b5, hg⟩ := b1.storePg (l := rep 288 c) (by simp) (by simp)
          have hB5 := hB.grown hg (by rw [← hb]; exact hB.size) (fun k e => by cases e; exact Nat.le_refl _)
          replace b5 := Lib.hid b5
          replace hB5 := Lib.hid hB5
          clear b1 b2 hB hg
          go_wp2_with (first | (refine wpList_load_var rfl 48 _ rfl _ rfl _ hlv ?_) | (refine wpList_store_var rfl 48 _ _ rfl _ rfl _ rfl hst ?_))
          exact bodyPost_ret (res20 b5.out (rep_len 288 c) rfl) rfl ⟨rfl, by rw [hb]; exact hB5.out⟩
theorem res34 {W : World} {b : Nat} {t : TypeId} {l : List UInt8} (h : Box W b t (cellsB l)) (hl : l.length = 288) {tmps : Array Value} (h2 : tmps.getD 0 undef = .pointer (some ⟨b, 0, none⟩)) :
    (results Try.f34 tmps).run Try.prog W = .ok (pgV l) W := by
  have h3 := h.loadPg hl
  simp at h2
  simp [results, Try.results34, asAddr, h2, h3]
set_option maxRecDepth 100000 in
set_option maxHeartbeats 4000000 in
theorem blank_any (w : World) : Calls Try.prog 34 #[] w (fun e w' => e = .returned (pgV (rep 288 255)) ∧ Below w.heap.size w w') := by
  have hz := zero48
  have b1 := (Box.new w 48 (cellsB (rep 288 0))).alloc (.cells (cellsB (rep 288 0)) 48)
  have b2 := Box.new (w.alloc (.cells (cellsB (rep 288 0)) 48)) 48 (cellsB (rep 288 0))
  have hB := (Below.refl w.heap.size w).alloc (Nat.le_refl _) (.cells (cellsB (rep 288 0)) 48)
  replace hB := hB.alloc hB.size (.cells (cellsB (rep 288 0)) 48)
  rw [World.size_alloc] at b2
  obtain ⟨W0, hW0⟩ : ∃ W0, (w.alloc (.cells (cellsB (rep 288 0)) 48)).alloc (.cells (cellsB (rep 288 0)) 48) = W0 := ⟨_, rfl⟩
  rw [hW0] at b1 b2 hB
  skip
  go_enter Try.func34, Try.ntmps34
  go_wp2_with fail
  clear hz hW0
  obtain ⟨b, hb⟩ : ∃ b, w.heap.size = b := ⟨_, rfl⟩
  rw [hb] at b1 b2 hB ⊢
  go_loopw [2] (fun i wr => ∃ k : Nat, k ≤ 256 ∧ i = .int .i64 k ∧ Box wr b 48 (cellsB (rep 288 0)) ∧ Box wr (b + 1) 48 (cellsB (fillTo 288 (k) 255 0)) ∧ Below b w wr) (fun i _ => 256 - (intOf i).toNat)
  case atStart => exact ⟨0, by omega, rfl, b1, by rw [fillTo_zero]; exact b2, hB⟩
  case round =>
    clear b1 b2 hB
    obtain ⟨k, hk, rfl, b1, b2, hB⟩ := hrel
    by_cases hlt : k < 256
    · have hl := fillTo_len 288 (k) 255 0 (by omega)
      obtain ⟨x0, c0⟩ : ∃ x, wr.cell? ⟨b + 1, k, none⟩ = some x := ⟨_, b2.get (k) _ (cellsB_get _ (k) (by omega))⟩
      have hf := b2.frozen (k)
      have b3 := b2.set (k) (byteV 255)
      rw [cellsB_set, fillTo_set 288 (k) 255 0 (by omega)] at b3
      have hB2 := hB.setCell (p := ⟨b + 1, k, none⟩) (by show b ≤ b + 1; omega) (byteV 255)
      have b4 := b1.far ⟨b + 1, k, none⟩ (byteV 255) (by show b + 1 ≠ b; omega)
      rw [show byteV 255 = Value.int .u8 255 from rfl] at b3 hB2 b4
      have hI0 : (0 : Int) ≤ (k : Int) := by omega
      have hI1 : (k : Int) < 256 := by omega
      replace b3 := Lib.hid b3
      replace hB2 := Lib.hid hB2
      replace b4 := Lib.hid b4
      clear b1 b2 hB hl
      go_wp2_with fail
      go_roundw
      case rel => exact ⟨k + 1, by omega, by go_num, b4.out, b3.out, hB2.out⟩
      case measure => simp [intOf]; omega
    · have hk' : k = 256 := by omega
      subst hk'
      go_wp2_with fail
      go_loopw [3] (fun i wr => ∃ k : Nat, k ≤ 32 ∧ i = .int .i64 k ∧ Box wr b 48 (cellsB (rep 288 0)) ∧ Box wr (b + 1) 48 (cellsB (fillTo 288 (256 + k) 255 0)) ∧ Below b w wr) (fun i _ => 32 - (intOf i).toNat)
      case atStart => exact ⟨0, by omega, rfl, b1, b2, hB⟩
      case round =>
        clear b1 b2 hB
        obtain ⟨k, hk, rfl, b1, b2, hB⟩ := hrel
        by_cases hlt : k < 32
        · have hl := fillTo_len 288 (256 + k) 255 0 (by omega)
          obtain ⟨x0, c0⟩ : ∃ x, wr.cell? ⟨b + 1, 256 + k, none⟩ = some x := ⟨_, b2.get (256 + k) _ (cellsB_get _ (256 + k) (by omega))⟩
          have hf := b2.frozen (256 + k)
          have b3 := b2.set (256 + k) (byteV 255)
          rw [cellsB_set, fillTo_set 288 (256 + k) 255 0 (by omega)] at b3
          have hB2 := hB.setCell (p := ⟨b + 1, 256 + k, none⟩) (by show b ≤ b + 1; omega) (byteV 255)
          have b4 := b1.far ⟨b + 1, 256 + k, none⟩ (byteV 255) (by show b + 1 ≠ b; omega)
          rw [show byteV 255 = Value.int .u8 255 from rfl] at b3 hB2 b4
          have hI0 : (0 : Int) ≤ (k : Int) := by omega
          have hI1 : (k : Int) < 32 := by omega
          replace b3 := Lib.hid b3
          replace hB2 := Lib.hid hB2
          replace b4 := Lib.hid b4
          clear b1 b2 hB hl
          go_wp2_with fail
          go_roundw
          case rel => exact ⟨k + 1, by omega, by go_num, b4.out, b3.out, hB2.out⟩
          case measure => simp [intOf]; omega
        · have hk' : k = 32 := by omega
          subst hk'
          rw [show 256 + 32 = 288 from rfl, fillTo_all] at b2
          have hlv := b2.loadPg (rep_len 288 255)
          obtain ⟨hst, b5, hg⟩ := b1.storePg (l := rep 288 255) (by simp) (by simp)
          have hB5 := hB.grown hg (by rw [← hb]; exact hB.size) (fun k e => by cases e; exact Nat.le_refl _)
          replace b5 := Lib.hid b5
          replace hB5 := Lib.hid hB5
          clear b1 b2 hB hg
          go_wp2_with (first | (refine wpList_load_var rfl 48 _ rfl _ rfl _ hlv ?_) | (refine wpList_store_var rfl 48 _ _ rfl _ rfl _ rfl hst ?_))
          exact bodyPost_ret (res34 b5.out (rep_len 288 255) rfl) rfl ⟨rfl, by rw [hb]; exact hB5.out⟩
end Go.Proofs.Ytlgjlhgdpiipbaa
/- A page's bytes copied: (*bytes).page, of. -/
namespace Go.Proofs.Ytlgjlhgdpiipbaa
open Go.RowKit
def splice (l : List UInt8) (i : Nat) (xs : List UInt8) : List UInt8 := l.take i ++ xs ++ l.drop (i + xs.length)
theorem splice_len (l : List UInt8) (i : Nat) (xs : List UInt8) (h : i + xs.length ≤ l.length) : (splice l i xs).length = l.length := by unfold splice; simp; omega
theorem splice_all (l xs : List UInt8) (h : xs.length = l.length) : splice l 0 xs = xs := by unfold splice; rw [Nat.zero_add, List.drop_eq_nil_of_le (by omega)]; simp
theorem splice_two (l xs : List UInt8) (hl : l.length = 288) (hx : xs.length = 288) : splice (splice l 0 (xs.take 256)) 256 (xs.drop 256) = xs := by
  have h1 : (xs.take 256).length = 256 := by rw [List.length_take]; omega
  have h2 : (xs.drop 256).length = 32 := by rw [List.length_drop]; omega
  have h3 : splice l 0 (xs.take 256) = xs.take 256 ++ l.drop 256 := by
    unfold splice
    rw [List.take_zero, List.nil_append, Nat.zero_add, h1]
  have e1 : List.take 256 (xs.take 256 ++ l.drop 256) = xs.take 256 := by rw [List.take_append_of_le_length (by omega), List.take_take]; simp
  have e2 : List.drop (256 + (xs.drop 256).length) (xs.take 256 ++ l.drop 256) = [] := List.drop_eq_nil_of_le (by rw [List.length_append, h1, h2, List.length_drop]; omega)
  rw [h3]
  unfold splice
  rw [e1, e2, List.append_nil, List.take_append_drop]
theorem size5 : (Try.prog.info? 5).map (·.size) = some 1 := by kernel_rfl
/-- copy of bytes into a block of the call's own. -/
theorem Box.copy {W : World} {g : Nat} {t : TypeId} {cur : List UInt8} (h : Box W g t (cellsB cur)) (off : Nat) (s : List UInt8) (hf : off + s.length ≤ cur.length) (ad : Addr) (dLen dCap sLen sCap : Nat) (hn : s.length = Nat.min sLen dLen)
    (hs : ∀ j (hj : j < s.length), W.cell? (ad.add j) = some (byteV s[j])) (ty : TypeId) :
    (Builtin.copy_ #[65, 65] ty #[.slice (some ⟨g, off, none⟩) dLen dCap, .slice (some ad) sLen sCap]).run Try.prog W = .ok (goInt s.length) (W.setRow g (cellsB (splice cur off s))) ∧ Box (W.setRow g (cellsB (splice cur off s))) g t (cellsB (splice cur off s)) ∧ W.grownBy (W.setRow g (cellsB (splice cur off s))) (some g) := by
  have hr := run_copy_row (P := Try.prog) W 65 65 ty 5 g off dLen dCap ad sLen sCap (cellsB cur) t (s.map byteV) Try.underlying65 size5 h (by rw [List.length_map]; exact hn) (fun j v hv => by
    rw [List.getElem?_map] at hv
    obtain ⟨c, hc, rfl⟩ := Option.map_eq_some_iff.1 hv
    obtain ⟨hj, rfl⟩ := List.getElem?_eq_some_iff.1 hc
    exact hs j hj) (by rw [List.length_map, cellsB_size]; exact hf) (fun v hv => by obtain ⟨c, _, rfl⟩ := List.mem_map.1 hv; rfl)
  have he : ((cellsB cur).toList.take off ++ s.map byteV ++ (cellsB cur).toList.drop (off + (s.map byteV).length)).toArray = cellsB (splice cur off s) := by
    unfold cellsB splice
    simp [List.map_take, List.map_drop]
  rw [he, List.length_map] at hr
  exact ⟨hr, setRow_heap W g _ _ t (0, 0) h, rfl, rfl, rfl, by simp [World.setRow], fun k _ hne => setRow_other W g k _ (fun e => hne (by rw [e]))⟩
/-- A copy as one step of a region that draws its order, by its run. -/
theorem step_copy_run {P : Program} {ops : Array Oper} {o : Oper} {a : Act} {w : World} {K : Act → World → Prop} {Q : Exit → Act → World → Prop} {E : Prop} (hgd : o.guard = none) (d s : Operand) (dT sT : TypeId)
    (ho : o.op = .call { callee := .builtin .copy, args := #[d, s], argTypes := #[dT, sT] }) (v u : Value) (hd : a.eval d = v) (hs : a.eval s = u) (r : Value) (w' : World)
    (hrun : (Builtin.copy_ #[dT, sT] o.type #[v, u]).run P w = .ok r w') (hK : K (a.put o.dst r) w') :
    if Region.wanted o (yielded ops a.tmps) = true then Oper.wp P o a w K Q else E := by
  have hw : Region.wanted o (yielded ops a.tmps) = true := by simp [Region.wanted, hgd]
  rw [if_pos hw]
  unfold Oper.wp
  simp [execOp, ho, resolve, invoke, builtin, hd, hs, hrun, Result.andThen]
  exact hK
theorem res38 {W : World} {b : Nat} {t : TypeId} {l : List UInt8} (h : Box W b t (cellsB l)) (hl : l.length = 288) {tmps : Array Value} (h2 : tmps.getD 2 undef = .pointer (some ⟨b, 0, none⟩)) :
    (results Try.f38 tmps).run Try.prog W = .ok (pgV l) W := by
  have h3 := h.loadPg hl
  simp at h2
  simp [results, Try.results38, asAddr, h2, h3]
/-- A page as a value. -/
def PgRes (l : List UInt8) (w : World) (e : Ending) (w' : World) : Prop := e = .returned (pgV l) ∧ Below w.heap.size w w'
set_option maxRecDepth 100000 in
set_option maxHeartbeats 4000000 in
theorem bpage_any (l : List UInt8) (b0 : Nat) (t0 : TypeId) (w : World) (h0 : Box w b0 t0 (cellsB l)) (hl : l.length = 288) : Calls Try.prog 38 #[.pointer (some ⟨b0, 0, none⟩)] w (PgRes l w) := by
  have hz := zero48
  have b1 := (Box.new w 48 (cellsB (rep 288 0))).alloc (.cells (cellsB (rep 288 0)) 48)
  have b2 := Box.new (w.alloc (.cells (cellsB (rep 288 0)) 48)) 48 (cellsB (rep 288 0))
  have hB := (Below.refl w.heap.size w).alloc (Nat.le_refl _) (.cells (cellsB (rep 288 0)) 48)
  replace hB := hB.alloc hB.size (.cells (cellsB (rep 288 0)) 48)
  have h1 := h0.below hB
  have hb0 := h0.lt
  rw [World.size_alloc] at b2
  obtain ⟨W0, hW0⟩ : ∃ W0, (w.alloc (.cells (cellsB (rep 288 0)) 48)).alloc (.cells (cellsB (rep 288 0)) 48) = W0 := ⟨_, rfl⟩
  rw [hW0] at b1 b2 hB h1
  clear h0
  go_enter Try.func38, Try.ntmps38
  go_upto_region 2 with fail
  clear hz hW0
  have t1 : (l.take 256).length = 256 := by rw [List.length_take]; omega
  have t2 : (l.drop 256).length = 32 := by rw [List.length_drop]; omega
  obtain ⟨hc1, b3, hg1⟩ := (Box.drew b2).copy 0 (l.take 256) (by rw [t1, rep_len]; omega) ⟨b0, 0, none⟩ 256 256 256 288 (by rw [t1]; rfl) (fun j hj => by
    rw [t1] at hj
    have hadd : (⟨b0, 0, none⟩ : Addr).add j = ⟨b0, j, none⟩ := by unfold Addr.add; split <;> simp_all
    rw [hadd, (Box.drew h1).get j _ (cellsB_get l j (by omega)), List.getElem_take]) 3
  have h2 := (Box.drew h1).grown hg1 (by simp; omega)
  have b4 := (Box.drew b1).grown hg1 (by simp)
  have hB3 := (Below.drew hB).grown hg1 (Nat.le_trans hB.size (Nat.le_refl _)) (fun k e => by cases e; omega)
  rw [t1] at hc1
  obtain ⟨W1, hW1⟩ : ∃ W1, W0.drew.setRow (w.heap.size + 1) (cellsB (splice (rep 288 0) 0 (l.take 256))) = W1 := ⟨_, rfl⟩
  rw [hW1] at hc1 b3 h2 b4 hB3
  have hs3 : (splice (rep 288 0) 0 (l.take 256)).length = 288 := by rw [splice_len _ _ _ (by rw [t1, rep_len]; omega), rep_len]
  replace hc1 := Lib.hid hc1
  clear hW1 hg1 b1 b2 hB h1
  refine wp_region_noPanic ?_
  refine wp_region_held_drew (S := fun _ => True) (by kernel_rfl) (trivial) (fun hHeld => ?_)
  refine wpAnyH_take (i := 0) (v := ?_) rfl (by kernel_rfl) (by kernel_rfl) (by kernel_rfl) (fun _ _ _ h => h) (Or.inl ⟨rfl, ?_⟩) (by assumption) ?_
  rotate_left
  · intro W hSw
    (try dsimp only at hSw)
    go_simp
    try with_reducible rfl
  try simp only [List.getElem_toArray, List.getElem_cons_zero, List.getElem_cons_succ, Act.put, List.setIfInBounds_toArray, List.set_cons_zero, List.set_cons_succ]
  refine wpAnyH_take (i := 1) (v := ?_) rfl (by kernel_rfl) (by kernel_rfl) (by kernel_rfl) (fun _ _ _ h => h) (Or.inl ⟨rfl, ?_⟩) (by assumption) ?_
  rotate_left
  · intro W hSw
    (try dsimp only at hSw)
    go_simp
    try with_reducible rfl
  try simp only [List.getElem_toArray, List.getElem_cons_zero, List.getElem_cons_succ, Act.put, List.setIfInBounds_toArray, List.set_cons_zero, List.set_cons_succ]
  refine wpAnyH_take (i := 2) (v := ?_) rfl (by kernel_rfl) (by kernel_rfl) (by kernel_rfl) (fun _ _ _ h => h) (Or.inl ⟨rfl, ?_⟩) (by assumption) ?_
  rotate_left
  · intro W hSw
    (try dsimp only at hSw)
    go_simp
    try with_reducible rfl
  try simp only [List.getElem_toArray, List.getElem_cons_zero, List.getElem_cons_succ, Act.put, List.setIfInBounds_toArray, List.set_cons_zero, List.set_cons_succ]
  refine wpAnyH_take (i := 3) (v := ?_) rfl (by kernel_rfl) (by kernel_rfl) (by kernel_rfl) (fun _ _ _ h => h) (Or.inl ⟨rfl, ?_⟩) (by assumption) ?_
  rotate_left
  · intro W hSw
    (try dsimp only at hSw)
    go_simp
    try with_reducible rfl
  try simp only [List.getElem_toArray, List.getElem_cons_zero, List.getElem_cons_succ, Act.put, List.setIfInBounds_toArray, List.set_cons_zero, List.set_cons_succ]
  refine wpAnyH_take (i := 4) (v := ?_) rfl (by kernel_rfl) (by kernel_rfl) (by kernel_rfl) (fun _ _ _ h => h) (Or.inl ⟨rfl, ?_⟩) (by assumption) ?_
  rotate_left
  · intro W hSw
    (try dsimp only at hSw)
    go_simp
    try with_reducible rfl
  try simp only [List.getElem_toArray, List.getElem_cons_zero, List.getElem_cons_succ, Act.put, List.setIfInBounds_toArray, List.set_cons_zero, List.set_cons_succ]
  refine wpAnyH_ready (rs := [5]) (by kernel_rfl) (by simp) (AllReadyH.cons rfl (fun K hK => ?_) AllReadyH.nil)
  refine step_copy_run rfl (.tmp 5) (.tmp 8) 65 65 rfl _ _ rfl rfl _ _ hc1.out ?_
  refine hK.out _ _ trivial (fun hHeld => ?_)
  clear hK
  try simp only [List.getElem_toArray, List.getElem_cons_zero, List.getElem_cons_succ, Act.put, List.setIfInBounds_toArray, List.set_cons_zero, List.set_cons_succ]
  refine wpAnyH_done (by kernel_rfl) ?_ _
  (try dsimp only [NoPanic])
  go_upto_region 3 with fail
  obtain ⟨hc2, b5, hg2⟩ := (Box.drew b3).copy 256 (l.drop 256) (by rw [t2, hs3]; omega) ⟨b0, 256, none⟩ 32 32 32 32 (by rw [t2]; rfl) (fun j hj => by
    rw [t2] at hj
    have hadd : (⟨b0, 256, none⟩ : Addr).add j = ⟨b0, 256 + j, none⟩ := by unfold Addr.add; split <;> simp_all
    rw [hadd, (Box.drew h2).get (256 + j) _ (cellsB_get l (256 + j) (by omega)), List.getElem_drop]) 3
  have b6 := (Box.drew b4).grown hg2 (by simp)
  have hB5 := (Below.drew hB3).grown hg2 (Nat.le_trans hB3.size (Nat.le_refl _)) (fun k e => by cases e; omega)
  rw [splice_two _ _ (rep_len _ _) hl] at hc2 b5 b6 hB5
  rw [t2] at hc2
  obtain ⟨W2, hW2⟩ : ∃ W2, W1.drew.setRow (w.heap.size + 1) (cellsB l) = W2 := ⟨_, rfl⟩
  rw [hW2] at hc2 b5 b6 hB5
  replace hc2 := Lib.hid hc2
  clear hW2 hg2 b3 b4 hB3 h2 hc1
  refine wp_region_noPanic ?_
  refine wp_region_held_drew (S := fun _ => True) (by kernel_rfl) (trivial) (fun hHeld => ?_)
  refine wpAnyH_take (i := 0) (v := ?_) rfl (by kernel_rfl) (by kernel_rfl) (by kernel_rfl) (fun _ _ _ h => h) (Or.inl ⟨rfl, ?_⟩) (by assumption) ?_
  rotate_left
  · intro W hSw
    (try dsimp only at hSw)
    go_simp
    try with_reducible rfl
  try simp only [List.getElem_toArray, List.getElem_cons_zero, List.getElem_cons_succ, Act.put, List.setIfInBounds_toArray, List.set_cons_zero, List.set_cons_succ]
  refine wpAnyH_take (i := 1) (v := ?_) rfl (by kernel_rfl) (by kernel_rfl) (by kernel_rfl) (fun _ _ _ h => h) (Or.inl ⟨rfl, ?_⟩) (by assumption) ?_
  rotate_left
  · intro W hSw
    (try dsimp only at hSw)
    go_simp
    try with_reducible rfl
  try simp only [List.getElem_toArray, List.getElem_cons_zero, List.getElem_cons_succ, Act.put, List.setIfInBounds_toArray, List.set_cons_zero, List.set_cons_succ]
  refine wpAnyH_take (i := 2) (v := ?_) rfl (by kernel_rfl) (by kernel_rfl) (by kernel_rfl) (fun _ _ _ h => h) (Or.inl ⟨rfl, ?_⟩) (by assumption) ?_
  rotate_left
  · intro W hSw
    (try dsimp only at hSw)
    go_simp
    try with_reducible rfl
  try simp only [List.getElem_toArray, List.getElem_cons_zero, List.getElem_cons_succ, Act.put, List.setIfInBounds_toArray, List.set_cons_zero, List.set_cons_succ]
  refine wpAnyH_take (i := 3) (v := ?_) rfl (by kernel_rfl) (by kernel_rfl) (by kernel_rfl) (fun _ _ _ h => h) (Or.inl ⟨rfl, ?_⟩) (by assumption) ?_
  rotate_left
  · intro W hSw
    (try dsimp only at hSw)
    go_simp
    try with_reducible rfl
  try simp only [List.getElem_toArray, List.getElem_cons_zero, List.getElem_cons_succ, Act.put, List.setIfInBounds_toArray, List.set_cons_zero, List.set_cons_succ]
  refine wpAnyH_take (i := 4) (v := ?_) rfl (by kernel_rfl) (by kernel_rfl) (by kernel_rfl) (fun _ _ _ h => h) (Or.inl ⟨rfl, ?_⟩) (by assumption) ?_
  rotate_left
  · intro W hSw
    (try dsimp only at hSw)
    go_simp
    try with_reducible rfl
  try simp only [List.getElem_toArray, List.getElem_cons_zero, List.getElem_cons_succ, Act.put, List.setIfInBounds_toArray, List.set_cons_zero, List.set_cons_succ]
  refine wpAnyH_ready (rs := [5]) (by kernel_rfl) (by simp) (AllReadyH.cons rfl (fun K hK => ?_) AllReadyH.nil)
  refine step_copy_run rfl (.tmp 11) (.tmp 14) 65 65 rfl _ _ rfl rfl _ _ hc2.out ?_
  refine hK.out _ _ trivial (fun hHeld => ?_)
  clear hK
  try simp only [List.getElem_toArray, List.getElem_cons_zero, List.getElem_cons_succ, Act.put, List.setIfInBounds_toArray, List.set_cons_zero, List.set_cons_succ]
  refine wpAnyH_done (by kernel_rfl) ?_ _
  (try dsimp only [NoPanic])
  have hlv := b5.loadPg hl
  obtain ⟨hst, b7, hg3⟩ := b6.storePg (l := l) (by simp) hl
  have hB7 := hB5.grown hg3 hB5.size (fun k e => by cases e; exact Nat.le_refl _)
  replace b7 := Lib.hid b7
  replace hB7 := Lib.hid hB7
  clear b5 b6 hB5 hg3 hc2
  go_wp2_with (first | (refine wpList_load_var rfl 48 _ rfl _ rfl _ hlv ?_) | (refine wpList_store_var rfl 48 _ _ rfl _ rfl _ rfl hst ?_))
  exact bodyPost_ret (res38 b7.out hl rfl) rfl ⟨rfl, hB7.out⟩
set_option maxRecDepth 100000 in
set_option maxHeartbeats 4000000 in
theorem of_any (l : List UInt8) (w : World) (hl : l.length = 288) : Calls Try.prog 50 #[pgV l] w (NewB l w) := by
  have hz := zero110
  have h0 := (Box.new w 48 (cellsB l)).alloc (.cells (cellsB (rep 288 0)) 110)
  have b2 := Box.new (w.alloc (.cells (cellsB l) 48)) 110 (cellsB (rep 288 0))
  have hB := (Below.refl w.heap.size w).alloc (Nat.le_refl _) (.cells (cellsB l) 48)
  replace hB := hB.alloc hB.size (.cells (cellsB (rep 288 0)) 110)
  rw [World.size_alloc] at b2
  obtain ⟨W0, hW0⟩ : ∃ W0, (w.alloc (.cells (cellsB l) 48)).alloc (.cells (cellsB (rep 288 0)) 110) = W0 := ⟨_, rfl⟩
  rw [hW0] at h0 b2 hB
  unfold pgV
  go_enter Try.func50, Try.ntmps50
  go_upto_region 2 with fail
  clear hz hW0
  have t1 : (l.take 256).length = 256 := by rw [List.length_take]; omega
  have t2 : (l.drop 256).length = 32 := by rw [List.length_drop]; omega
  obtain ⟨hc1, b3, hg1⟩ := (Box.drew b2).copy 0 (l.take 256) (by rw [t1, rep_len]; omega) ⟨w.heap.size, 0, none⟩ 288 288 256 256 (by rw [t1]; rfl) (fun j hj => by
    rw [t1] at hj
    have hadd : (⟨w.heap.size, 0, none⟩ : Addr).add j = ⟨w.heap.size, j, none⟩ := by unfold Addr.add; split <;> simp_all
    rw [hadd, (Box.drew h0).get j _ (cellsB_get l j (by omega)), List.getElem_take]) 3
  have h2 := (Box.drew h0).grown hg1 (by simp)
  have hB3 := (Below.drew hB).grown hg1 (Nat.le_trans hB.size (Nat.le_refl _)) (fun k e => by cases e; omega)
  rw [t1] at hc1
  obtain ⟨W1, hW1⟩ : ∃ W1, W0.drew.setRow (w.heap.size + 1) (cellsB (splice (rep 288 0) 0 (l.take 256))) = W1 := ⟨_, rfl⟩
  rw [hW1] at hc1 b3 h2 hB3
  have hs3 : (splice (rep 288 0) 0 (l.take 256)).length = 288 := by rw [splice_len _ _ _ (by rw [t1, rep_len]; omega), rep_len]
  obtain ⟨hc2, b5, hg2⟩ := b3.copy 256 (l.drop 256) (by rw [t2, hs3]; omega) ⟨w.heap.size, 256, none⟩ 32 32 32 32 (by rw [t2]; rfl) (fun j hj => by
    rw [t2] at hj
    have hadd : (⟨w.heap.size, 256, none⟩ : Addr).add j = ⟨w.heap.size, 256 + j, none⟩ := by unfold Addr.add; split <;> simp_all
    rw [hadd, h2.get (256 + j) _ (cellsB_get l (256 + j) (by omega)), List.getElem_drop]) 3
  have hB5 := hB3.grown hg2 (Nat.le_trans hB3.size (Nat.le_refl _)) (fun k e => by cases e; omega)
  rw [splice_two _ _ (rep_len _ _) hl] at hc2 b5 hB5
  rw [t2] at hc2
  obtain ⟨W2, hW2⟩ : ∃ W2, W1.setRow (w.heap.size + 1) (cellsB l) = W2 := ⟨_, rfl⟩
  rw [hW2] at hc2 b5 hB5
  replace hc2 := Lib.hid hc2
  replace hc1 := Lib.hid hc1
  replace b5 := Lib.hid b5
  replace hB5 := Lib.hid hB5
  clear hW2 hg2 b3 hB3 h2 hW1 hg1 h0 b2 hB
  refine wp_region_noPanic ?_
  refine wp_region_held_drew (S := fun _ => True) (by kernel_rfl) (trivial) (fun hHeld => ?_)
  refine wpAnyH_take (i := 0) (v := ?_) rfl (by kernel_rfl) (by kernel_rfl) (by kernel_rfl) (fun _ _ _ h => h) (Or.inl ⟨rfl, ?_⟩) (by assumption) ?_
  rotate_left
  · intro W hSw
    (try dsimp only at hSw)
    go_simp
    try with_reducible rfl
  try simp only [List.getElem_toArray, List.getElem_cons_zero, List.getElem_cons_succ, Act.put, List.setIfInBounds_toArray, List.set_cons_zero, List.set_cons_succ]
  refine wpAnyH_take (i := 1) (v := ?_) rfl (by kernel_rfl) (by kernel_rfl) (by kernel_rfl) (fun _ _ _ h => h) (Or.inl ⟨rfl, ?_⟩) (by assumption) ?_
  rotate_left
  · intro W hSw
    (try dsimp only at hSw)
    go_simp
    try with_reducible rfl
  try simp only [List.getElem_toArray, List.getElem_cons_zero, List.getElem_cons_succ, Act.put, List.setIfInBounds_toArray, List.set_cons_zero, List.set_cons_succ]
  refine wpAnyH_take (i := 2) (v := ?_) rfl (by kernel_rfl) (by kernel_rfl) (by kernel_rfl) (fun _ _ _ h => h) (Or.inl ⟨rfl, ?_⟩) (by assumption) ?_
  rotate_left
  · intro W hSw
    (try dsimp only at hSw)
    go_simp
    try with_reducible rfl
  try simp only [List.getElem_toArray, List.getElem_cons_zero, List.getElem_cons_succ, Act.put, List.setIfInBounds_toArray, List.set_cons_zero, List.set_cons_succ]
  refine wpAnyH_take (i := 5) (v := ?_) rfl (by kernel_rfl) (by kernel_rfl) (by kernel_rfl) (fun _ _ _ h => h) (Or.inl ⟨rfl, ?_⟩) (by assumption) ?_
  rotate_left
  · intro W hSw
    (try dsimp only at hSw)
    go_simp
    try with_reducible rfl
  try simp only [List.getElem_toArray, List.getElem_cons_zero, List.getElem_cons_succ, Act.put, List.setIfInBounds_toArray, List.set_cons_zero, List.set_cons_succ]
  refine wpAnyH_take (i := 6) (v := ?_) rfl (by kernel_rfl) (by kernel_rfl) (by kernel_rfl) (fun _ _ _ h => h) (Or.inl ⟨rfl, ?_⟩) (by assumption) ?_
  rotate_left
  · intro W hSw
    (try dsimp only at hSw)
    go_simp
    try with_reducible rfl
  try simp only [List.getElem_toArray, List.getElem_cons_zero, List.getElem_cons_succ, Act.put, List.setIfInBounds_toArray, List.set_cons_zero, List.set_cons_succ]
  refine wpAnyH_ready (rs := [3]) (by kernel_rfl) (by simp) (AllReadyH.cons rfl (fun K hK => ?_) AllReadyH.nil)
  refine step_copy_run rfl (.tmp 4) (.tmp 6) 65 65 rfl _ _ rfl rfl _ _ hc1.out ?_
  refine hK.out _ _ trivial (fun hHeld => ?_)
  clear hK
  try simp only [List.getElem_toArray, List.getElem_cons_zero, List.getElem_cons_succ, Act.put, List.setIfInBounds_toArray, List.set_cons_zero, List.set_cons_succ]
  refine wpAnyH_take (i := 4) (v := ?_) rfl (by kernel_rfl) (by kernel_rfl) (by kernel_rfl) (fun _ _ _ h => h) (Or.inl ⟨rfl, ?_⟩) (by assumption) ?_
  rotate_left
  · intro W hSw
    (try dsimp only at hSw)
    go_simp
    try with_reducible rfl
  try simp only [List.getElem_toArray, List.getElem_cons_zero, List.getElem_cons_succ, Act.put, List.setIfInBounds_toArray, List.set_cons_zero, List.set_cons_succ]
  refine wpAnyH_ready (rs := [7]) (by kernel_rfl) (by simp) (AllReadyH.cons rfl (fun K hK => ?_) AllReadyH.nil)
  refine step_copy_run rfl (.tmp 8) (.tmp 10) 65 65 rfl _ _ rfl rfl _ _ hc2.out ?_
  refine hK.out _ _ trivial (fun hHeld => ?_)
  clear hK
  try simp only [List.getElem_toArray, List.getElem_cons_zero, List.getElem_cons_succ, Act.put, List.setIfInBounds_toArray, List.set_cons_zero, List.set_cons_succ]
  refine wpAnyH_done (by kernel_rfl) ?_ _
  (try dsimp only [NoPanic])
  go_wp2_with fail
  go_ret
  exact ⟨_, rfl, Nat.le_succ _, b5.out, hB5.out⟩
end Go.Proofs.Ytlgjlhgdpiipbaa
