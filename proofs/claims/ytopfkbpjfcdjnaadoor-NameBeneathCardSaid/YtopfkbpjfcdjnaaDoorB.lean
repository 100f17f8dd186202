/- Chains of wrapped errors in memory; small words. -/
import Derived.Test.YtopfkbpjfcdjnaaDoorA
import Derived.Below
import Derived.Lib.Hide
import Derived.Deep.Draws
import Derived.Laws.AppendOwn
namespace Go.Proofs.YtopfkbpjfcdjnaaDoor
open Go.RowKit
/-- Block b is just these cells. -/
def Box (W : World) (b : Nat) (t : TypeId) (vs : Array Value) : Prop := W.heap[b]? = some (.cells vs t (0, 0))
theorem Box.lt {W : World} {b : Nat} {t : TypeId} {vs : Array Value} (h : Box W b t vs) : b < W.heap.size := (Array.getElem?_eq_some_iff.1 h).1
theorem Box.cell {W : World} {b : Nat} {t : TypeId} {vs : Array Value} (h : Box W b t vs) (j : Nat) : W.cell? ⟨b, j, none⟩ = vs[j]? := by
  simp [World.cell?, show W.heap[b]? = _ from h]
theorem Box.get {W : World} {b : Nat} {t : TypeId} {vs : Array Value} (h : Box W b t vs) (j : Nat) (v : Value) (hv : vs[j]? = some v) : W.cell? ⟨b, j, none⟩ = some v := (h.cell j).trans hv
theorem Box.frozen {W : World} {b : Nat} {t : TypeId} {vs : Array Value} (h : Box W b t vs) (j : Nat) : W.frozen? ⟨b, j, none⟩ = false := by
  simp [World.frozen?, show W.heap[b]? = _ from h]
theorem Box.below {W W' : World} {b : Nat} {t : TypeId} {vs : Array Value} (h : Box W b t vs) (hb : Below W.heap.size W W') : Box W' b t vs := (hb.block b h.lt).trans h
theorem Box.set {W : World} {b : Nat} {t : TypeId} {vs : Array Value} (h : Box W b t vs) (j : Nat) (v : Value) : Box (W.setCell ⟨b, j, none⟩ v) b t (vs.setIfInBounds j v) := by
  unfold Box at h ⊢
  simp [World.setCell, Array.getElem?_modify, h]
theorem Box.new (W : World) (t : TypeId) (vs : Array Value) : Box (W.alloc (.cells vs t)) W.heap.size t vs := heap_alloc_new W _
theorem Box.alloc {W : World} {b : Nat} {t : TypeId} {vs : Array Value} (h : Box W b t vs) (o : Obj) : Box (W.alloc o) b t vs := h.below ((Below.refl _ _).alloc (Nat.le_refl _) _)
theorem Box.grown {W W' : World} {b : Nat} {t : TypeId} {vs : Array Value} {row : Option Nat} (h : Box W b t vs) (hg : W.grownBy W' row) (hne : some b ≠ row) : Box W' b t vs := (hg.block b h.lt hne).trans h
/-- A link of a chain: an error at a sector, or of a call; where it lies. -/
inductive Lk
  | disk (s : Int) (b o : Nat)
  | fault (op path : ByteArray) (b o : Nat)
/-- A chain of errors: the value; its links, the outermost first; the number at its end (none: it ends in nothing). -/
inductive Chain (W : World) : Value → List Lk → Option Int → Prop
  | base (n : Int) : Chain W (.iface 25 (.int .i64 n)) [] (some n)
  | diskEnd (s : Int) (b o : Nat) : W.cell? ⟨b, o, none⟩ = some (.int .i64 s) → W.cell? ⟨b, o + 1, none⟩ = some .nilIface → Chain W (.iface 36 (.pointer (some ⟨b, o, none⟩))) [.disk s b o] none
  | disk (s : Int) (b o : Nat) (E : Value) (l : List Lk) (t : Option Int) : W.cell? ⟨b, o, none⟩ = some (.int .i64 s) → W.cell? ⟨b, o + 1, none⟩ = some E → Chain W E l t →
      Chain W (.iface 36 (.pointer (some ⟨b, o, none⟩))) (.disk s b o :: l) t
  | fault (op path : ByteArray) (b o : Nat) (E : Value) (l : List Lk) (t : Option Int) : W.cell? ⟨b, o, none⟩ = some (.string op) → W.cell? ⟨b, o + 1, none⟩ = some (.string path) → W.cell? ⟨b, o + 2, none⟩ = some E → Chain W E l t →
      Chain W (.iface 64 (.pointer (some ⟨b, o, none⟩))) (.fault op path b o :: l) t
theorem Chain.not_nil {W : World} {l : List Lk} {t : Option Int} (h : Chain W .nilIface l t) : False := by cases h
theorem Chain.unique {W : World} {E : Value} {l l' : List Lk} {t t' : Option Int} (h : Chain W E l t) (h' : Chain W E l' t') : l = l' ∧ t = t' := by
  induction h generalizing l' t' with
  | base n => cases h'; exact ⟨rfl, rfl⟩
  | diskEnd s b o h1 h2 =>
    cases h' with
    | diskEnd s' _ _ h1' _ => rw [h1] at h1'; cases h1'; exact ⟨rfl, rfl⟩
    | disk s' _ _ E' _ _ _ h2' h3' => rw [h2] at h2'; cases h2'; exact h3'.not_nil.elim
  | disk s b o E l t h1 h2 h3 ih =>
    cases h' with
    | diskEnd s' _ _ h1' h2' => rw [h2] at h2'; cases h2'; exact h3.not_nil.elim
    | disk s' _ _ E' _ _ h1' h2' h3' =>
      rw [h1] at h1'; cases h1'; rw [h2] at h2'; cases h2'
      obtain ⟨rfl, rfl⟩ := ih h3'
      exact ⟨rfl, rfl⟩
  | fault op path b o E l t h1 h2 h3 h4 ih =>
    cases h' with
    | fault _ _ _ _ E' _ _ h1' h2' h3' h4' =>
      rw [h1] at h1'; cases h1'; rw [h2] at h2'; cases h2'; rw [h3] at h3'; cases h3'
      obtain ⟨rfl, rfl⟩ := ih h4'
      exact ⟨rfl, rfl⟩
theorem cell_lt {W : World} {b o : Nat} {v : Value} (h : W.cell? ⟨b, o, none⟩ = some v) : b < W.heap.size := by
  rcases Nat.lt_or_ge b W.heap.size with h' | h'
  · exact h'
  · have : W.heap[b]? = none := by simp [h']
    simp [World.cell?, this] at h
/-- A cell that lies is kept where old blocks are. -/
theorem cell_below {W W' : World} {b o : Nat} {v : Value} (h : W.cell? ⟨b, o, none⟩ = some v) (hb : Below W.heap.size W W') : W'.cell? ⟨b, o, none⟩ = some v :=
  (hb.cell (p := ⟨b, o, none⟩) (cell_lt h)).trans h
theorem Chain.keep {W W' : World} {E : Value} {l : List Lk} {t : Option Int} (h : Chain W E l t) (hb : Below W.heap.size W W') : Chain W' E l t := by
  induction h with
  | base n => exact .base n
  | diskEnd s b o h1 h2 => exact .diskEnd s b o (cell_below h1 hb) (cell_below h2 hb)
  | disk s b o E l t h1 h2 h3 ih => exact .disk s b o E l t (cell_below h1 hb) (cell_below h2 hb) ih
  | fault op path b o E l t h1 h2 h3 h4 ih => exact .fault op path b o E l t (cell_below h1 hb) (cell_below h2 hb) (cell_below h3 hb) ih
open Classical in
/-- How many links are left. -/
noncomputable def chainLen (W : World) (E : Value) : Nat := if h : ∃ l t, Chain W E l t then h.choose.length else 0
theorem chainLen_eq {W : World} {E : Value} {l : List Lk} {t : Option Int} (h : Chain W E l t) : chainLen W E = l.length := by
  unfold chainLen
  have hx : ∃ l t, Chain W E l t := ⟨l, t, h⟩
  rw [dif_pos hx]
  obtain ⟨t', ht'⟩ := Exists.choose_spec hx
  rw [(ht'.unique h).1]
def firstDisk : List Lk → Option (Int × Nat × Nat)
  | [] => none
  | .disk s b o :: _ => some (s, b, o)
  | .fault _ _ _ _ :: l => firstDisk l
def firstFault : List Lk → Option (ByteArray × ByteArray × Nat × Nat)
  | [] => none
  | .disk _ _ _ :: l => firstFault l
  | .fault op path b o :: _ => some (op, path, b, o)
/-- errors.As has found what was asked for: it lies in block B. -/
def Found (T : TypeId) (B : Nat) (W : World) (e : Ending) (w' : World) (v : Value) : Prop := e = .returned (.bool true) ∧ Box w' B T #[v] ∧ W.grownBy w' (some B)
def Missed (W : World) (e : Ending) (w' : World) : Prop := e = .returned (.bool false) ∧ W.grownBy w' none
/-- What errors.As comes to. -/
def AsRes (T : TypeId) (B : Nat) (W : World) (o : Option Value) (e : Ending) (w' : World) : Prop :=
  match o with
  | some v => Found T B W e w' v
  | none => Missed W e w'
def numV (t : Option Int) : Option Value := t.map fun n => .int .i64 n
def diskV (l : List Lk) : Option Value := (firstDisk l).map fun x => .pointer (some ⟨x.2.1, x.2.2, none⟩)
def faultV (l : List Lk) : Option Value := (firstFault l).map fun x => .pointer (some ⟨x.2.2.1, x.2.2.2, none⟩)
theorem grown_trans {a b c : World} {row : Option Nat} (h : a.grownBy b row) (k : b.grownBy c row) : a.grownBy c row :=
  ⟨k.os.trans h.os, k.tape.trans h.tape, k.output.trans h.output, Nat.le_trans h.size k.size, fun i hi hn => (k.block i (Nat.lt_of_lt_of_le hi h.size) hn).trans (h.block i hi hn)⟩
theorem grown_alloc (W : World) (o : Obj) (row : Option Nat) : W.grownBy (W.alloc o) row :=
  ⟨rfl, rfl, rfl, by simp, fun i hi _ => Below.heap_alloc W o i hi⟩
theorem grown_set (W : World) (B : Nat) (v : Value) : W.grownBy (W.setCell ⟨B, 0, none⟩ v) (some B) :=
  ⟨rfl, rfl, rfl, by simp [World.setCell], fun i _ hn => Below.heap_setCell W _ v i (fun e => hn (by rw [e]))⟩
theorem grown_none {a b : World} (h : a.grownBy b none) (row : Option Nat) : a.grownBy b row := ⟨h.os, h.tape, h.output, h.size, fun i hi _ => h.block i hi (by simp)⟩
theorem found_mk {T : TypeId} {B : Nat} {W wr : World} {old v : Value} {o : Obj} (hg : W.grownBy wr (some B)) (hB : Box wr B T #[old]) : Found T B W (.returned (.bool true)) ((wr.alloc o).setCell ⟨B, 0, none⟩ v) v :=
  ⟨rfl, by simpa using (hB.alloc o).set 0 v, grown_trans (grown_trans hg (grown_alloc wr o _)) (grown_set _ B v)⟩
end Go.Proofs.YtopfkbpjfcdjnaaDoor
