/- What the rows of this seat share: arguments as plain data (a geometry, numbers, calls, events); a law that returns true. -/
import Derived.LaidHandle
import Derived.Stop.Joined
import Derived.ChangeMaps5
import Derived.SizedLaws
import Derived.Test.YtlgjlhgdpiipbaaZk
import Derived.Test.YtlgjlhgdpiipbaaRows
import Derived.WalkKit
import Derived.ProofKit
import Derived.OpenShut
import Derived.Carry
import Derived.Deep.DeepHandedRow
import Derived.Deep.Slices
import Derived.Deep.Fields
import Derived.ChangeSame
namespace Go.Proofs.Ytlgjlhgdpiipbaa
open Go.ChangeShapes Go.WideShapes Go.ChangeAt Go.RowKit
section
variable {H : Type} {enc : TypeId × Value → H} {P : Program}
/-- What is read as data is read as the same behind a call that leaves old blocks as they are. -/
theorem below_trodAll (hl : laidOutB P = true) {W W' : World} (hn : Below W.heap.size W W') :
    ∀ (ts : List TypeId) (vs : List Value) (ds : List (DataW H)) (ps : List MemPlace),
    (∀ t ∈ ts, P.readableRec t = true ∧ t < P.types.size) → (∀ x ∈ ps, x.block < W.heap.size) →
    DataW.TrodAll enc P W 0 (fun _ => true) true ts vs ds ps → DataW.TrodAll enc P W' 0 (fun b => decide (b < W.heap.size)) true ts vs ds ps := by
  intro ts
  induction ts with
  | nil =>
    intro vs ds ps _ _ h
    obtain ⟨rfl, rfl, rfl⟩ := trodAll_nil h
    exact trodAll_mk0
  | cons t ts ih =>
    intro vs ds ps ht hp h
    obtain ⟨v0, vs0, d0, ds0, p0, q0, rfl, rfl, rfl, h0, r0⟩ := trodAll_cons h
    exact trodAll_cons_mk (Below.trod hl (ht t (List.mem_cons_self ..)).1 (ht t (List.mem_cons_self ..)).2 h0 hn fun x hx => hp x (List.mem_append_left _ hx))
      (ih _ _ _ (fun u hu => ht u (List.mem_cons_of_mem _ hu)) (fun x hx => hp x (List.mem_append_right _ hx)) r0)
/-- A law that returns true and makes nothing but new blocks does what its row says. -/
theorem contract_true (hl : laidOutB P = true) {k : FuncId} {f : Func} {s : ChangeSpec} (hv : s.vars = []) (hr : f.resultTypes = #[4]) (h4 : P.underlying 4 = some .bool)
    (hp : ∀ t ∈ f.params.toList, P.readableRec t = true ∧ t < P.types.size) {W : World} {args : Array Value} {ds gs : List (DataW H)} {before : List MemPlace}
    (hfn : s.fn H ds = { results := [.lit (.bool true)], args := ds }) (hW : DataW.Whole enc P f.params.toList s.vars false W args.toList ds gs before)
    (hc : Calls P k args W fun e W' => e = .returned (.bool true) ∧ Below W.heap.size W W') :
    Calls P k args W fun e W' => ∃ v, e = .returned v ∧ s.post enc P f false true false false W args v W' := by
  have hW' := hW
  obtain ⟨p, q, hA, hV, rfl, hfz, hnd⟩ := hW
  rw [hv] at hV
  obtain ⟨rfl, rfl⟩ := trodVars_none hV
  have hlt : ∀ x ∈ p ++ [], x.block < W.heap.size := fun x hx => by simpa using hW'.lt x hx
  refine hc.mono fun e W' ⟨he, hb⟩ => ?_
  subst he
  refine ⟨_, rfl, ds, [], p ++ [], [], p, [], hW', ?_, ?_, ?_, hb.frame _, fun h => by cases h⟩
  · rw [hr, List.append_nil, hfn]
    exact trodAll_cons_mk (shut_bool h4 true) trodAll_mk0
  · rw [List.append_nil, hfn]
    exact below_trodAll hl hb _ _ _ _ hp (fun x hx => hlt x (List.mem_append_left _ hx)) hA
  · rw [List.append_nil, hfn, hv]
    exact rfl
end
theorem laidOut : laidOutB Try.prog = true := by kernel_rfl
theorem own : ownKnob Try.prog.godebug = none := by kernel_rfl
theorem cell_lt {W : World} {b o : Nat} {v : Value} (h : W.cell? ⟨b, o, none⟩ = some v) : b < W.heap.size := by
  rcases Nat.lt_or_ge b W.heap.size with h' | h'
  · exact h'
  · have : W.heap[b]? = none := by simp [h']
    simp [World.cell?, this] at h
section
variable {H : Type} {enc : TypeId × Value → H} {W : World} {base : Nat} {sp : Nat → Bool} {held : Bool}
theorem open_bytes {fuel : Nat} {c : Value} {x : DataW H × List MemPlace} (hsp : ∀ b, sp b = true) (h : DataW.trod enc Try.prog W base sp held fuel 65 [c] = some x) :
    ∃ (l : List UInt8) (a : Option Addr) (cap : Nat), c = .slice a l.length cap ∧ RdB W (.slice a l.length cap) l := by
  rcases open_ints Try.underlying65 Try.underlying5 (by kernel_rfl) h with ⟨hcs, hx⟩ | ⟨a, len, cap, zs, hcs, _, hl, hmx, hz, hx, hcell, hwz⟩
  · simp at hcs; subst hcs
    exact ⟨[], none, 0, rfl, Rd.nil _ _⟩
  · simp at hcs; subst hcs
    rw [hsp a.block, if_pos rfl] at hz
    obtain ⟨l, hl'⟩ : ∃ l : List UInt8, l = (zs.take len).map fun z => UInt8.ofNat z.toNat := ⟨_, rfl⟩
    have hll : l.length = len := by rw [hl']; simp; omega
    refine ⟨l, some a, cap, by rw [hll], some a, cap, rfl, by omega, fun j y hj => ?_⟩
    have hjl : j < l.length := (List.getElem?_eq_some_iff.1 hj).1
    have hjz : j < zs.length := by omega
    have hc := hcell j hjz
    have hs := World.cell?_spot (hcell 0 (by omega))
    obtain ⟨b, o, spot⟩ := a
    have : spot = none := by simpa [Addr.add] using hs
    subst this
    have he : (⟨b, o, none⟩ : Addr).add j = ⟨b, o + j, none⟩ := by unfold Addr.add; split <;> simp_all
    rw [he] at hc
    refine ⟨b, o, rfl, cell_lt hc, ?_⟩
    rw [hc]
    have hw := bounds_u8 (hwz (zs[j]) (List.getElem_mem hjz))
    rw [hl', List.getElem?_map, List.getElem?_take_of_lt (by omega), List.getElem?_eq_getElem hjz] at hj
    simp only [Option.map_some, Option.some.injEq] at hj
    subst hj
    rw [List.getD_eq_getElem?_getD, List.getElem?_eq_getElem hjz]
    unfold byteV
    simp only [Option.getD_some, Option.some.injEq, Value.int.injEq, true_and, UInt8.toNat_ofNat']
    have : zs[j].toNat < 256 := by omega
    omega
/-- A slice of structs, by what each one's cells are. -/
theorem open_rows {α : Type} [Inhabited α] {f : α → List Value} {ok : α → Prop} {k t e : Nat} {fuel : Nat} {c : Value} {x : DataW H × List MemPlace} (hk : ∀ y, (f y).length = k) (hk0 : 0 < k) (ht : Try.prog.underlying t = some (.slice e)) (he : Try.prog.cellsOf e = k)
    (hcell : ∀ (n : Nat) (cs : List Value) (x : DataW H × List MemPlace), cs.length = k → DataW.trod enc Try.prog W base sp held n e cs = some x → ∃ y, cs = f y ∧ ok y)
    (h : DataW.trod enc Try.prog W base sp held fuel t [c] = some x) : ∃ xs : List α, RdC f k W c xs ∧ ∀ y ∈ xs, ok y := by
  rcases Go.Deep.open_slice ht h with ⟨hcs, hx⟩ | ⟨a, len, cap, m, n, D, Pl, hcs, _, hl, hmx, hm, hx, hi⟩
  · simp at hcs; subst hcs
    exact ⟨[], RdC.nil _ _ _, fun y hy => by simp at hy⟩
  · simp at hcs; subst hcs
    have hlm : len ≤ m := by rw [hm]; split <;> omega
    have hE : ∀ i, i < m → ∃ y : α, (∀ j u, (f y)[j]? = some u → W.cell? (a.add (i * k + j)) = some u) ∧ ok y := by
      intro i him
      obtain ⟨cs, hcs, htr⟩ := hi i him
      rw [he] at hcs
      obtain ⟨_, hcl, hat⟩ := World.cells?_some hcs
      obtain ⟨y, hy, hok⟩ := hcell n cs _ hcl htr
      refine ⟨y, fun j u hu => ?_, hok⟩
      rw [← hy] at hu
      have hj := (List.getElem?_eq_some_iff.1 hu).1
      have := hat j (by rw [← hcl]; exact hj)
      rw [Go.Deep.add_add] at this
      rw [this]; exact hu
    have hch : ∃ g : Nat → α, ∀ i, i < m → (∀ j u, (f (g i))[j]? = some u → W.cell? (a.add (i * k + j)) = some u) ∧ ok (g i) :=
      ⟨fun i => if h : i < m then (hE i h).choose else default, fun i him => by
        simp only [him, dite_true]; exact (hE i him).choose_spec⟩
    obtain ⟨g, hgk⟩ := hch
    have hg := fun i h => (hgk i h).1
    have hxl : ((List.range len).map g).length = len := by simp
    refine ⟨(List.range len).map g, ⟨some a, cap, by rw [hxl], by omega, fun j y hj => ?_⟩, fun y hy => by
      obtain ⟨i, hi', rfl⟩ := List.mem_map.1 hy
      exact (hgk i (by have := List.mem_range.1 hi'; omega)).2⟩
    have hjl : j < len := by have := (List.getElem?_eq_some_iff.1 hj).1; simpa using this
    obtain rfl : g j = y := by simpa [hjl] using hj
    have h0 : 0 < (f (g 0)).length := by rw [hk]; exact hk0
    have hs := World.cell?_spot (hg 0 (by omega) 0 _ (List.getElem?_eq_getElem h0))
    obtain ⟨b, o, spot⟩ := a
    have : spot = none := by simpa [Addr.add] using hs
    subst this
    have he : ∀ k, (⟨b, o, none⟩ : Addr).add k = ⟨b, o + k, none⟩ := fun k => by unfold Addr.add; split <;> simp_all
    have hj0 : 0 < (f (g j)).length := by rw [hk]; exact hk0
    have hlt := hg j (by omega) 0 _ (List.getElem?_eq_getElem hj0)
    rw [he] at hlt
    refine ⟨b, o, rfl, cell_lt hlt, fun i u hu => ?_⟩
    have := hg j (by omega) i u hu
    rw [he] at this
    rw [Nat.add_assoc]
    exact this
set_option maxRecDepth 100000 in
theorem open_geo {b0 : Nat} {r : Reach} {v : Value} {d : DataW H} {p : List MemPlace} (hv : Value.okWide Try.prog W r b0 23 v) (h : DataW.Trod enc Try.prog W base sp held 23 v d p) : ∃ bn pn : Int, v = .agg #[.int .i64 bn, .int .i64 pn] := by
  have h23 : Try.prog.cellsOf 23 = 2 := by kernel_rfl
  have k3 : Try.prog.cellsOf 3 = 1 := by kernel_rfl
  obtain ⟨cs, rfl, hsz⟩ := okWide_struct Try.underlying23 hv
  obtain ⟨fuel, hf⟩ := h
  obtain ⟨ys, n, _, hy, _, hyl, hg⟩ := DataW.trod_struct Try.underlying23 hf
  obtain ⟨cl⟩ := cs
  match cl, hsz.trans h23, ys, hyl with
  | [c0, c1], _, [y0, y1], _ =>
  have q0 : DataW.trod enc Try.prog W base sp held n 3 (([c0, c1].drop 0).take (Try.prog.cellsOf 3)) = some y0 := hg 0 _ rfl
  have q1 : DataW.trod enc Try.prog W base sp held n 3 (([c0, c1].drop 1).take (Try.prog.cellsOf 3)) = some y1 := hg 1 _ rfl
  rw [k3] at q0 q1
  obtain ⟨n1, e1, _, _⟩ := DataW.trod_int Try.underlying3 q0
  obtain ⟨n2, e2, _, _⟩ := DataW.trod_int Try.underlying3 q1
  obtain rfl : c0 = .int .i64 n1 := by simpa using e1
  obtain rfl : c1 = .int .i64 n2 := by simpa using e2
  exact ⟨n1, n2, rfl⟩
set_option maxRecDepth 100000 in
theorem cells_cl {n : Nat} {cs : List Value} {x : DataW H × List MemPlace} (hcl : cs.length = 5) (htr : DataW.trod enc Try.prog W base sp held n 40 cs = some x) : ∃ c : Cl, cs = clL c ∧ True := by
  have k3 : Try.prog.cellsOf 3 = 1 := by kernel_rfl
  have k4 : Try.prog.cellsOf 4 = 1 := by kernel_rfl
  have k5 : Try.prog.cellsOf 5 = 1 := by kernel_rfl
  obtain ⟨ys, n', _, hy, _, hyl, hf⟩ := DataW.trod_struct Try.underlying40 htr
  match cs, hcl, ys, hyl with
  | [u0, u1, u2, u3, u4], _, [z0, z1, z2, z3, z4], _ =>
  have q0 : DataW.trod enc Try.prog W base sp held n' 3 (([u0, u1, u2, u3, u4].drop 0).take (Try.prog.cellsOf 3)) = some z0 := hf 0 _ rfl
  have q1 : DataW.trod enc Try.prog W base sp held n' 3 (([u0, u1, u2, u3, u4].drop 1).take (Try.prog.cellsOf 3)) = some z1 := hf 1 _ rfl
  have q2 : DataW.trod enc Try.prog W base sp held n' 3 (([u0, u1, u2, u3, u4].drop 2).take (Try.prog.cellsOf 3)) = some z2 := hf 2 _ rfl
  have q3 : DataW.trod enc Try.prog W base sp held n' 4 (([u0, u1, u2, u3, u4].drop 3).take (Try.prog.cellsOf 4)) = some z3 := hf 3 _ rfl
  have q4 : DataW.trod enc Try.prog W base sp held n' 5 (([u0, u1, u2, u3, u4].drop 4).take (Try.prog.cellsOf 5)) = some z4 := hf 4 _ rfl
  rw [k3] at q0 q1 q2
  rw [k4] at q3
  rw [k5] at q4
  obtain ⟨n0, e0, _, _⟩ := DataW.trod_int Try.underlying3 q0
  obtain ⟨n1, e1, _, _⟩ := DataW.trod_int Try.underlying3 q1
  obtain ⟨n2, e2, _, _⟩ := DataW.trod_int Try.underlying3 q2
  obtain ⟨b3, e3, _⟩ := DataW.trod_bool Try.underlying4 q3
  obtain ⟨n4, e4, _, w4⟩ := DataW.trod_int Try.underlying5 q4
  obtain rfl : u0 = .int .i64 n0 := by simpa using e0
  obtain rfl : u1 = .int .i64 n1 := by simpa using e1
  obtain rfl : u2 = .int .i64 n2 := by simpa using e2
  obtain rfl : u3 = .bool b3 := by simpa using e3
  obtain rfl : u4 = .int .u8 n4 := by simpa using e4
  have hb := bounds_u8 w4
  refine ⟨⟨n0, n1, n2, b3, UInt8.ofNat n4.toNat⟩, ?_, trivial⟩
  unfold clL
  have : ((UInt8.ofNat n4.toNat).toNat : Int) = n4 := by
    rw [UInt8.toNat_ofNat']
    have : n4.toNat < 256 := by omega
    omega
  dsimp only
  rw [this]
set_option maxRecDepth 100000 in
/-- One call, handed in as a value. -/
theorem open_call {b0 : Nat} {r : Reach} {v : Value} {d : DataW H} {p : List MemPlace} (hv : Value.okWide Try.prog W r b0 40 v) (h : DataW.Trod enc Try.prog W base sp held 40 v d p) : ∃ c : Cl, v = clV c := by
  have h40 : Try.prog.cellsOf 40 = 5 := by kernel_rfl
  obtain ⟨cs, rfl, hsz⟩ := okWide_struct Try.underlying40 hv
  obtain ⟨fuel, hf⟩ := h
  obtain ⟨cl⟩ := cs
  obtain ⟨c, hc, _⟩ := cells_cl (W := W) (n := fuel) (cs := cl) (hsz.trans h40) hf
  exact ⟨c, by rw [hc]; rfl⟩
theorem rdB_same {W' : World} {v : Value} {l : List UInt8} (h : RdB W v l) (hs : Same (fun b => b < W.heap.size) W W') : RdB W' v l := by
  obtain ⟨a, cap, h1, h2, h3⟩ := h
  refine ⟨a, cap, h1, h2, fun j x hj => ?_⟩
  obtain ⟨b, o, k1, k2, k3⟩ := h3 j x hj
  exact ⟨b, o, k1, Nat.lt_of_lt_of_le k2 hs.2, (cell_of_heap (hs.1 b k2) _).trans k3⟩
/-- An event's cells, with its mask's slice. -/
def evL (x : Ev × Value) : List Value := [.int .i64 x.1.at_, .int .i64 x.1.kind, x.2]
theorem evL_len (x : Ev × Value) : (evL x).length = 3 := rfl
set_option maxRecDepth 100000 in
theorem cells_ev {n : Nat} {cs : List Value} {x : DataW H × List MemPlace} (hsp : ∀ b, sp b = true) (hcl : cs.length = 3) (htr : DataW.trod enc Try.prog W base sp held n 67 cs = some x) : ∃ e : Ev × Value, cs = evL e ∧ RdB W e.2 e.1.mask := by
  have k2 : Try.prog.cellsOf 2 = 1 := by kernel_rfl
  have k3 : Try.prog.cellsOf 3 = 1 := by kernel_rfl
  have k65 : Try.prog.cellsOf 65 = 1 := by kernel_rfl
  obtain ⟨ys, n', _, hy, _, hyl, hf⟩ := DataW.trod_struct Try.underlying67 htr
  match cs, hcl, ys, hyl with
  | [u0, u1, u2], _, [z0, z1, z2], _ =>
  have q0 : DataW.trod enc Try.prog W base sp held n' 2 (([u0, u1, u2].drop 0).take (Try.prog.cellsOf 2)) = some z0 := hf 0 _ rfl
  have q1 : DataW.trod enc Try.prog W base sp held n' 3 (([u0, u1, u2].drop 1).take (Try.prog.cellsOf 3)) = some z1 := hf 1 _ rfl
  have q2 : DataW.trod enc Try.prog W base sp held n' 65 (([u0, u1, u2].drop 2).take (Try.prog.cellsOf 65)) = some z2 := hf 2 _ rfl
  rw [k2] at q0
  rw [k3] at q1
  rw [k65] at q2
  obtain ⟨n0, e0, _, _⟩ := DataW.trod_int Try.underlying2 q0
  obtain ⟨n1, e1, _, _⟩ := DataW.trod_int Try.underlying3 q1
  obtain rfl : u0 = .int .i64 n0 := by simpa using e0
  obtain rfl : u1 = .int .i64 n1 := by simpa using e1
  obtain ⟨l, a, cap, hc, hr⟩ := open_bytes hsp (show DataW.trod enc Try.prog W base sp held n' 65 [u2] = some z2 from q2)
  exact ⟨(⟨n0, n1, l⟩, u2), rfl, by rw [hc]; exact hr⟩
instance : Inhabited Cl := ⟨⟨0, 0, 0, false, 0⟩⟩
instance : Inhabited Ev := ⟨⟨0, 0, []⟩⟩
instance : Inhabited Value := ⟨.nilFunc⟩
set_option maxRecDepth 100000 in
theorem open_calls {b0 : Nat} {r : Reach} {v : Value} {d : DataW H} {p : List MemPlace} (hv : Value.okWide Try.prog W r b0 37 v) (h : DataW.Trod enc Try.prog W base sp held 37 v d p) : ∃ xs, RdC clL 5 W v xs := by
  obtain ⟨a0, len0, cap0, rfl⟩ := okWide_slice Try.underlying37 hv
  obtain ⟨fuel, hf⟩ := h
  obtain ⟨xs, h1, _⟩ := open_rows (f := clL) clL_len (by decide) Try.underlying37 (by kernel_rfl) (fun n cs x h1 h2 => cells_cl h1 h2) hf
  exact ⟨xs, h1⟩
set_option maxRecDepth 100000 in
theorem calls_len {v : Value} {d : DataW H} {p : List MemPlace} {xs : List Cl} (hr : RdC clL 5 W v xs) (h : DataW.Trod enc Try.prog W base sp held 37 v d p) : xs.length ≤ 9223372036854775807 := by
  obtain ⟨a0, c0, rfl⟩ := hr.len
  obtain ⟨fuel, hf⟩ := h
  rcases Go.Deep.open_slice Try.underlying37 (show DataW.trod enc Try.prog W base sp held fuel 37 [Value.slice a0 xs.length c0] = some (d, p) from hf) with ⟨hcs, hx⟩ | ⟨a, len, cap, m, n, D, Pl, hcs, _, hl, hmx, hm, hx, hi⟩
  · simp at hcs; rw [hcs.2.1]; simp
  · simp at hcs
    obtain ⟨_, e, _⟩ := hcs
    unfold maxLen at hmx
    omega
set_option maxRecDepth 100000 in
theorem open_nums {b0 : Nat} {r : Reach} {v : Value} {d : DataW H} {p : List MemPlace} (hv : Value.okWide Try.prog W r b0 24 v) (h : DataW.Trod enc Try.prog W base sp held 24 v d p) : ∃ xs, IntS W W.heap.size v xs ∧ xs.length ≤ 9223372036854775807 := by
  obtain ⟨a0, len0, cap0, rfl⟩ := okWide_slice Try.underlying24 hv
  obtain ⟨fuel, hf⟩ := h
  have hcell : ∀ (n : Nat) (cs : List Value) (x : DataW H × List MemPlace), cs.length = 1 → DataW.trod enc Try.prog W base sp held n 3 cs = some x → ∃ y : Int, cs = [Value.int .i64 y] ∧ True := by
    intro n cs x _ h2
    obtain ⟨m, e, _, _⟩ := DataW.trod_int Try.underlying3 h2
    exact ⟨m, e, trivial⟩
  obtain ⟨xs, h1, _⟩ := open_rows (α := Int) (f := fun y => [Value.int .i64 y]) (fun _ => rfl) (by decide) Try.underlying24 (by kernel_rfl) hcell hf
  have hl : xs.length ≤ 9223372036854775807 := by
    obtain ⟨a1, c1, e1⟩ := h1.len
    rw [e1] at hf
    rcases Go.Deep.open_slice Try.underlying24 (show DataW.trod enc Try.prog W base sp held fuel 24 [Value.slice a1 xs.length c1] = some (d, p) from hf) with ⟨hcs, hx⟩ | ⟨a, len, cap, m, n, D, Pl, hcs, _, hl, hmx, hm, hx, hi⟩
    · simp at hcs; rw [hcs.2.1]; simp
    · simp at hcs
      obtain ⟨_, e, _⟩ := hcs
      unfold maxLen at hmx
      omega
  refine ⟨xs, ?_, hl⟩
  obtain ⟨a, cap, e, hc, h3⟩ := h1
  refine ⟨a, cap, e, hc, fun j x hj => ?_⟩
  obtain ⟨b, o, k1, k2, k3⟩ := h3 j x hj
  have := k3 0 _ rfl
  rw [Nat.mul_one, Nat.add_zero] at this
  exact ⟨b, o, k1, k2, this⟩
set_option maxRecDepth 100000 in
theorem open_evs {b0 : Nat} {r : Reach} {v : Value} {d : DataW H} {p : List MemPlace} (hsp : ∀ b, sp b = true) (hv : Value.okWide Try.prog W r b0 25 v) (h : DataW.Trod enc Try.prog W base sp held 25 v d p) : ∃ evs, EvS W (fun b => b < W.heap.size) v evs := by
  obtain ⟨a0, len0, cap0, rfl⟩ := okWide_slice Try.underlying25 hv
  obtain ⟨fuel, hf⟩ := h
  obtain ⟨xs, h1, h2⟩ := open_rows (f := evL) evL_len (by decide) Try.underlying25 (by kernel_rfl) (fun n cs x h1 h2 => cells_ev hsp h1 h2) hf
  refine ⟨xs.map Prod.fst, ?_⟩
  obtain ⟨a, cap, e, hc, h3⟩ := h1
  refine ⟨a, cap, by rw [List.length_map]; exact e, by rw [List.length_map]; exact hc, fun j x hj => ?_⟩
  rw [List.getElem?_map] at hj
  obtain ⟨y, hy, rfl⟩ := Option.map_eq_some_iff.1 hj
  obtain ⟨b, o, k1, k2, k3⟩ := h3 j y hy
  have hm := h2 y (List.mem_iff_getElem?.2 ⟨j, hy⟩)
  exact ⟨b, o, y.2, k1, k2, k2, k3 0 _ rfl, k3 1 _ rfl, k3 2 _ rfl, fun W' hs => rdB_same hm hs⟩
set_option maxRecDepth 100000 in
theorem open_int {b0 : Nat} {r : Reach} {v : Value} (hv : Value.okWide Try.prog W r b0 3 v) : ∃ n : Int, v = .int .i64 n := okWide_int Try.underlying3 hv
set_option maxRecDepth 100000 in
theorem bulk_pos : ∀ d : DataW H, 1 ≤ Rows.uptoBulk d
  | .lit (.string bytes) => by show 1 ≤ bytes.length + 1; omega
  | .lit (.bool _) => Nat.le_refl _
  | .lit (.int _ _) => Nat.le_refl _
  | .lit (.float .f32 _) => Nat.le_refl _
  | .lit (.float .f64 _) => Nat.le_refl _
  | .lit .nil => Nat.le_refl _
  | .nil => Nat.le_refl _
  | .ptr d => by show 1 ≤ Rows.uptoBulk d + 1; omega
  | .slice elems spare => by show 1 ≤ Rows.uptoBulkAll elems + Rows.uptoBulkAll spare + 1; omega
  | .agg parts => by show 1 ≤ Rows.uptoBulkAll parts + 1; omega
  | .iface _ d => by show 1 ≤ Rows.uptoBulk d + 1; omega
  | .map entries => by show 1 ≤ Rows.uptoBulkEntries entries + 1; omega
  | .held _ => Nat.le_refl _
theorem bulkAll_len : ∀ l : List (DataW H), l.length ≤ Rows.uptoBulkAll l
  | [] => Nat.le_refl _
  | d :: r => by
    have h1 := bulk_pos d
    have h2 := bulkAll_len r
    show r.length + 1 ≤ Rows.uptoBulk d + Rows.uptoBulkAll r
    omega
set_option maxRecDepth 100000 in
theorem evs_bulk {v : Value} {d : DataW H} {p : List MemPlace} {evs : List Ev} {R : Nat → Prop} (hr : EvS W R v evs) (h : DataW.Trod enc Try.prog W base sp held 25 v d p) : evs.length ≤ Rows.uptoBulk d := by
  obtain ⟨a0, c0, rfl, _⟩ := hr
  obtain ⟨fuel, hf⟩ := h
  rcases Go.Deep.open_slice Try.underlying25 (show DataW.trod enc Try.prog W base sp held fuel 25 [Value.slice a0 evs.length c0] = some (d, p) from hf) with ⟨hcs, hx⟩ | ⟨a, len, cap, m, n, D, Pl, hcs, _, hl, hmx, hm, hx, hi⟩
  · simp at hcs; rw [hcs.2.1]; simp
  · simp at hcs
    obtain ⟨_, e, _⟩ := hcs
    have hd := (Prod.mk.inj hx).1
    rw [hd]
    show evs.length ≤ Rows.uptoBulkAll ((List.range len).map D) + _ + 1
    have := bulkAll_len ((List.range len).map D)
    rw [List.length_map, List.length_range] at this
    omega
end
end Go.Proofs.Ytlgjlhgdpiipbaa
