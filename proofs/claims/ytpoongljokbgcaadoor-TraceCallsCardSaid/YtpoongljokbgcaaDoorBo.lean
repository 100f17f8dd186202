/- 'x, y := Plain(a), Plain(b)': the invariant of the drawn statement (trace.Same). -/
import Derived.Test.YtpoongljokbgcaaDoorBl
import Derived.Test.YtpoongljokbgcaaDoorBn
namespace Go.Proofs.YtpoongljokbgcaaDoor
open Go.RowKit
/-- What reads as a list, and lies in another block than b. -/
def RdX (W : World) (v : Value) (l : List UInt8) (b : Nat) : Prop :=
  ∃ a cap, v = .slice a l.length cap ∧ l.length ≤ cap ∧ ∀ j x, l[j]? = some x → ∃ b' o, a = some ⟨b', o, none⟩ ∧ b' < W.heap.size ∧ W.cell? ⟨b', o + j, none⟩ = some (byteV x) ∧ b' ≠ b
theorem RdX.rd {W : World} {v : Value} {l : List UInt8} {b : Nat} (h : RdX W v l b) : RdB W v l := by
  obtain ⟨a, cap, h1, h2, h3⟩ := h
  exact ⟨a, cap, h1, h2, fun j x hj => by obtain ⟨b', o, e1, e2, e3, _⟩ := h3 j x hj; exact ⟨b', o, e1, e2, e3⟩⟩
theorem RdX.setCell {W : World} {v : Value} {l : List UInt8} {b : Nat} (h : RdX W v l b) (i : Nat) (u : Value) : RdX (W.setCell ⟨b, i, none⟩ u) v l b := by
  obtain ⟨a, cap, h1, h2, h3⟩ := h
  refine ⟨a, cap, h1, h2, fun j x hj => ?_⟩
  obtain ⟨b', o, e1, e2, e3, e4⟩ := h3 j x hj
  refine ⟨b', o, e1, by simpa [World.setCell] using e2, ?_, e4⟩
  rw [World.cell?_setCell_other _ _ _ _ (by intro h; have h' := congrArg Addr.block h; first | exact e4 h' | exact e4 h'.symm)]
  exact e3
def NoU8 (vs : Array Value) : Prop := ∀ (j : Nat) (n : Int), vs[j]? ≠ some (.int .u8 n)
theorem rdX_of {W : World} {v : Value} {l : List UInt8} {b : Nat} {t : TypeId} {vs : Array Value} (h : RdB W v l) (hb : Box W b t vs) (hn : NoU8 vs) : RdX W v l b := by
  obtain ⟨a, cap, h1, h2, h3⟩ := h
  refine ⟨a, cap, h1, h2, fun j x hj => ?_⟩
  obtain ⟨b', o, e1, e2, e3⟩ := h3 j x hj
  refine ⟨b', o, e1, e2, e3, ?_⟩
  rintro rfl
  rw [hb.cell] at e3
  exact hn _ _ e3
abbrev zero44 : Array Value := #[.int .i64 0, .string ⟨#[]⟩, .string ⟨#[]⟩, .int .i64 0, .int .i64 0, .slice none 0 0]
abbrev aggO (o : Opr) (ad : Option Addr) (cp : Nat) : Array Value := #[.int .i64 o.kind, .string (S o.path), .string (S o.dest), .int .i64 o.off, .int .i64 o.len, .slice ad o.data.length cp]
theorem noU8_six {v0 v1 v2 v3 v4 v5 : Value} (h0 : ∀ n, v0 ≠ .int .u8 n) (h1 : ∀ n, v1 ≠ .int .u8 n) (h2 : ∀ n, v2 ≠ .int .u8 n) (h3 : ∀ n, v3 ≠ .int .u8 n) (h4 : ∀ n, v4 ≠ .int .u8 n) (h5 : ∀ n, v5 ≠ .int .u8 n) : NoU8 #[v0, v1, v2, v3, v4, v5] := by
  intro j n h
  match j, h with
  | 0, h => exact h0 n (by simpa using h)
  | 1, h => exact h1 n (by simpa using h)
  | 2, h => exact h2 n (by simpa using h)
  | 3, h => exact h3 n (by simpa using h)
  | 4, h => exact h4 n (by simpa using h)
  | 5, h => exact h5 n (by simpa using h)
  | j + 6, h => simp at h
theorem noU8_zero : NoU8 zero44 := noU8_six (by simp) (by simp) (by simp) (by simp) (by simp) (by simp)
theorem noU8_agg (o : Opr) (ad : Option Addr) (cp : Nat) : NoU8 (aggO o ad cp) := noU8_six (by simp) (by simp) (by simp) (by simp) (by simp) (by simp)
/-- six cells of a block laid anew -/
def six (W : World) (b : Nat) (o : Opr) (ad : Option Addr) (cp : Nat) : World :=
  (((((W.setCell ⟨b, 0, none⟩ (.int .i64 o.kind)).setCell ⟨b, 1, none⟩ (.string (S o.path))).setCell ⟨b, 2, none⟩ (.string (S o.dest))).setCell ⟨b, 3, none⟩ (.int .i64 o.off)).setCell ⟨b, 4, none⟩ (.int .i64 o.len)).setCell ⟨b, 5, none⟩ (.slice ad o.data.length cp)
theorem six_box {W : World} {b : Nat} {vs : Array Value} (h : Box W b 44 vs) (hv : vs.size = 6) (o : Opr) (ad : Option Addr) (cp : Nat) : Box (six W b o ad cp) b 44 (aggO o ad cp) := by
  obtain ⟨l⟩ := vs
  match l, hv with
  | [a0, a1, a2, a3, a4, a5], _ =>
    have := (((((h.set 0 (.int .i64 o.kind)).set 1 (.string (S o.path))).set 2 (.string (S o.dest))).set 3 (.int .i64 o.off)).set 4 (.int .i64 o.len)).set 5 (.slice ad o.data.length cp)
    unfold six
    simpa [aggO] using this
theorem six_far {W : World} {b c : Nat} {t : TypeId} {vs : Array Value} (h : Box W c t vs) (hne : b ≠ c) (o : Opr) (ad : Option Addr) (cp : Nat) : Box (six W b o ad cp) c t vs :=
  (((((h.setFar ⟨b, 0, none⟩ _ hne).setFar ⟨b, 1, none⟩ _ hne).setFar ⟨b, 2, none⟩ _ hne).setFar ⟨b, 3, none⟩ _ hne).setFar ⟨b, 4, none⟩ _ hne).setFar ⟨b, 5, none⟩ _ hne
theorem six_rd {W : World} {b : Nat} {v : Value} {l : List UInt8} (h : RdX W v l b) (o : Opr) (ad : Option Addr) (cp : Nat) : RdX (six W b o ad cp) v l b :=
  (((((h.setCell 0 _).setCell 1 _).setCell 2 _).setCell 3 _).setCell 4 _).setCell 5 _
theorem six_below {W w : World} {b : Nat} {B : Nat} (h : Below B w W) (hB : B ≤ b) (o : Opr) (ad : Option Addr) (cp : Nat) : Below B w (six W b o ad cp) :=
  (((((h.setCell (p := ⟨b, 0, none⟩) hB _).setCell (p := ⟨b, 1, none⟩) hB _).setCell (p := ⟨b, 2, none⟩) hB _).setCell (p := ⟨b, 3, none⟩) hB _).setCell (p := ⟨b, 4, none⟩) hB _).setCell (p := ⟨b, 5, none⟩) hB _
abbrev fr22 (A B : Value) (H : Nat) (u5 u6 u8 u9 u10 u11 : Value) : Act :=
  ⟨#[A, B, .pointer (some ⟨H, 0, none⟩), .pointer (some ⟨H + 1, 0, none⟩), .bool false, u5, u6, undef, u8, u9, u10, u11, undef, undef, undef, undef, undef, undef, undef, undef, undef, undef, undef, undef, undef, undef, undef, undef, undef, undef, undef, undef, undef, undef, undef, undef, undef, undef, undef, undef, undef, undef, undef, undef, undef, undef, undef, undef, undef, undef, undef, undef, undef], []⟩
/-- ahead of the stores: what has come so far -/
structure Pre22 (w : World) (As Bs : Array Value) (pa pb : Opr) (d0 d1 d2 d3 d4 d5 : Bool) (u5 u6 u8 u9 u10 u11 : Value) (w' : World) : Prop where
  bA : Box w' w.heap.size 44 As
  bB : Box w' (w.heap.size + 1) 44 Bs
  bel : Below w.heap.size w w'
  h0 : d0 = true → u8 = .agg As
  h2 : d2 = true → u10 = .agg Bs
  h1 : d1 = true → ∃ ad cp, u9 = .agg (aggO pa ad cp) ∧ RdB w' (.slice ad pa.data.length cp) pa.data
  h3 : d3 = true → ∃ ad cp, u11 = .agg (aggO pb ad cp) ∧ RdB w' (.slice ad pb.data.length cp) pb.data
  h4 : d4 = true → ∃ b, u5 = .pointer (some ⟨b, 0, none⟩) ∧ w.heap.size + 1 < b ∧ Box w' b 44 zero44
  h5 : d5 = true → ∃ b, u6 = .pointer (some ⟨b, 0, none⟩) ∧ w.heap.size + 1 < b ∧ Box w' b 44 zero44
  o31 : d3 = true → d2 = true
  ne : d4 = true → d5 = true → ∀ b c, u5 = .pointer (some ⟨b, 0, none⟩) → u6 = .pointer (some ⟨c, 0, none⟩) → b ≠ c
theorem Pre22.below {w : World} {As Bs : Array Value} {pa pb : Opr} {d0 d1 d2 d3 d4 d5 : Bool} {u5 u6 u8 u9 u10 u11 : Value} {w' w'' : World} (h : Pre22 w As Bs pa pb d0 d1 d2 d3 d4 d5 u5 u6 u8 u9 u10 u11 w') (hb : Below w'.heap.size w' w'') :
    Pre22 w As Bs pa pb d0 d1 d2 d3 d4 d5 u5 u6 u8 u9 u10 u11 w'' :=
  ⟨h.bA.below hb, h.bB.below hb, h.bel.trans (hb.mono h.bel.size), h.h0, h.h2, fun d => by obtain ⟨ad, cp, e, r⟩ := h.h1 d; exact ⟨ad, cp, e, r.below hb⟩, fun d => by obtain ⟨ad, cp, e, r⟩ := h.h3 d; exact ⟨ad, cp, e, r.below hb⟩,
   fun d => by obtain ⟨b, e, hl, r⟩ := h.h4 d; exact ⟨b, e, hl, r.below hb⟩, fun d => by obtain ⟨b, e, hl, r⟩ := h.h5 d; exact ⟨b, e, hl, r.below hb⟩, h.o31, h.ne⟩
/-- behind the first store, behind both -/
def Mid22 (w : World) (pa pb : Opr) (u5 u6 u9 u11 : Value) (w' : World) : Prop :=
  ∃ b5 b6 aa ca ab cb, u5 = .pointer (some ⟨b5, 0, none⟩) ∧ u6 = .pointer (some ⟨b6, 0, none⟩) ∧ u11 = .agg (aggO pb ab cb) ∧ Box w' b5 44 (aggO pa aa ca) ∧ Box w' b6 44 zero44 ∧ b6 ≠ b5 ∧ w.heap.size ≤ b6 ∧
    RdB w' (.slice aa pa.data.length ca) pa.data ∧ RdB w' (.slice ab pb.data.length cb) pb.data ∧ Below w.heap.size w w' ∧ u9 = u9
def End22 (w : World) (pa pb : Opr) (u5 u6 : Value) (w' : World) : Prop :=
  ∃ b5 b6 aa ca ab cb, u5 = .pointer (some ⟨b5, 0, none⟩) ∧ u6 = .pointer (some ⟨b6, 0, none⟩) ∧ Box w' b5 44 (aggO pa aa ca) ∧ Box w' b6 44 (aggO pb ab cb) ∧
    RdB w' (.slice aa pa.data.length ca) pa.data ∧ RdB w' (.slice ab pb.data.length cb) pb.data ∧ Below w.heap.size w w'
def Inv22 (w : World) (As Bs : Array Value) (pa pb : Opr) (l : List Bool) (a : Act) (w' : World) : Prop :=
  ∃ (u5 u6 u8 u9 u10 u11 : Value), a = fr22 (.agg As) (.agg Bs) w.heap.size u5 u6 u8 u9 u10 u11 ∧
    ((∃ d0 d1 d2 d3 d4 d5 : Bool, l = [d0, d1, d2, d3, d4, d5, false, false] ∧ Pre22 w As Bs pa pb d0 d1 d2 d3 d4 d5 u5 u6 u8 u9 u10 u11 w') ∨
     (l = [true, true, true, true, true, true, true, false] ∧ Mid22 w pa pb u5 u6 u9 u11 w') ∨ (l = [true, true, true, true, true, true, true, true] ∧ End22 w pa pb u5 u6 w'))
end Go.Proofs.YtpoongljokbgcaaDoor
