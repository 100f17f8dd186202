import Derived.Test.YtlgjlhgdpiipbaaMaj
import Derived.LaidHandle
import Derived.Stop.Joined
import Derived.ChangeMaps5
import Derived.SizedLaws
import Derived.Test.YtlgjlhgdpiipbaaRows
import Derived.WalkKit
import Derived.ProofKit
import Derived.OpenShut
import Derived.Carry
import Derived.Deep.DeepHandedRow
import Derived.Deep.Slices
import Derived.Deep.Fields
import Derived.ChangeSame
/- Pages, to a law; a chip without power. -/
namespace Go.Proofs.Ytlgjlhgdpiipbaa
open Go.RowKit
theorem has_pages22 {w W : World} {X : Nat → Prop} {c : Nat} {st : Chip} (h : Has w W X c st) (n : Int) : Calls Try.prog 22 #[.pointer (some ⟨c, 0, none⟩), .int .i64 n] W (SeqPg (st.pagesOf n) W) := by
  obtain ⟨Fm, Fr, L, hC, hge, hX, hw⟩ := h; exact pages22_any hC n
theorem pagesOf_len {w W : World} {X : Nat → Prop} {c : Nat} {st : Chip} (h : Has w W X c st) (n : Int) : (st.pagesOf n).length ≤ 32 := by
  unfold Chip.pagesOf
  split
  · rw [List.length_map, List.length_range]; exact h.bnd.2.2.2
  · simp
theorem pagesOf_mem {w W : World} {X : Nat → Prop} {c : Nat} {st : Chip} (h : Has w W X c st) (n : Int) : ∀ p ∈ st.pagesOf n, p.length = 288 := by
  obtain ⟨Fm, Fr, L, hC, hge, hX, hw⟩ := h
  intro p hp
  unfold Chip.pagesOf at hp
  split at hp
  · rename_i ht
    obtain ⟨i, rfl, hi⟩ := Chip.there_nat ht
    obtain ⟨j, hj, rfl⟩ := List.mem_map.1 hp
    exact hC.len i hi j (List.mem_range.1 hj)
  · cases hp
/-- Pages and then the law's pages: the numbers and the pages of a block. -/
theorem seqPg_pages {w W1 : World} {ps : List (List UInt8)} {Bl : Nat} {la : Option Addr} {lc : Nat} (m : Nat) (h32 : ps.length ≤ 32) (hm : m ≤ 1000000) (hbx : Box W1 Bl 56 #[.slice la ps.length lc]) (hrd : RdC pgL 288 W1 (.slice la ps.length lc) ps) (hla : ∀ b o, la = some ⟨b, o, none⟩ → w.heap.size ≤ b ∧ b < W1.heap.size) :
    Calls Try.prog 21 #[.func (.func 55) #[] #[.pointer (some ⟨Bl, 0, none⟩)], .int .i64 m] W1 (PgsRes (ps.zipIdx.take m) W1) :=
  pages21_any Bl ps la lc m h32 W1 hbx hrd (fun b o e => (hla b o e).2) hm
/-- Without power nothing is done, and everything says so. -/
theorem program_off {st : Chip} (h : st.off = true) (n p : Int) (pg : List UInt8) : st.program n p pg = (8, st) := by
  have ha : st.asks n p = 8 := asks_off h
  unfold Chip.program
  rw [ha]
  exact if_pos (by decide)
theorem erase_off {st : Chip} (h : st.off = true) (n : Int) : st.erase n = (8, st) := by
  have ha : st.asks n 0 = 8 := asks_off h
  unfold Chip.erase
  rw [ha]
  exact if_pos (by decide)
theorem readAt_off {st : Chip} (h : st.off = true) (n p : Int) : st.readAt n p = (rep 288 0, 8) := by
  have ha : st.asks n p = 8 := asks_off h
  unfold Chip.readAt
  rw [ha]
  exact if_neg (by decide)
theorem does_off {st : Chip} (h : st.off = true) (o : Cl) (ho : o.do_ ≠ 3) : (st.does o).2 = st ∧ (0 ≤ o.do_ ∧ o.do_ ≤ 2 → (st.does o).1.2 = 8) := by
  unfold Chip.does
  split
  · rw [program_off h]; exact ⟨rfl, fun _ => rfl⟩
  · rename_i h0
    split
    · rw [erase_off h]; exact ⟨rfl, fun _ => rfl⟩
    · rename_i h1
      split
      · rw [readAt_off h]; exact ⟨rfl, fun _ => rfl⟩
      · rename_i h2
        try rw [if_neg ho]
        exact ⟨rfl, fun hh => by omega⟩
end Go.Proofs.Ytlgjlhgdpiipbaa
/- NandPower, plainly: the chip behind calls; without power. -/
namespace Go.Proofs.Ytlgjlhgdpiipbaa
open Go.RowKit
/-- A call's cells. -/
def clL (o : Cl) : List Value := [.int .i64 o.do_, .int .i64 o.blk, .int .i64 o.page, .bool o.next, .int .u8 o.fill.toNat]
theorem clL_len (o : Cl) : (clL o).length = 5 := rfl
/-- The chip behind these calls. -/
def Chip.runs (st : Chip) (l : List Cl) : Chip := l.foldl (fun s o => (s.does o).2) st
theorem runs_nil (st : Chip) : st.runs [] = st := rfl
theorem runs_snoc (st : Chip) (l : List Cl) (o : Cl) : st.runs (l ++ [o]) = ((st.runs l).does o).2 := by unfold Chip.runs; rw [List.foldl_append]; rfl
theorem runs_good {st : Chip} : ∀ (l : List Cl) (N : Int), st.Good N → (st.runs l).Good (N + l.length) := by
  intro l
  induction l generalizing st with
  | nil => intro N h; exact h.mono (by simp)
  | cons o r ih =>
    intro N h
    have := ih (N + 1) (does_good h o)
    show ((st.does o).2.runs r).Good _
    refine this.mono ?_
    simp only [List.length_cons]
    omega
theorem runs_geo (st : Chip) : ∀ (l : List Cl), (st.runs l).bn = st.bn ∧ (st.runs l).pn = st.pn := by
  intro l
  induction l generalizing st with
  | nil => exact ⟨rfl, rfl⟩
  | cons o r ih =>
    have h1 := ih (st.does o).2
    have h2 := does_geo st o
    exact ⟨h1.1.trans h2.1, h1.2.trans h2.2⟩
/-- The chip that NandPower makes. -/
theorem power_new (bn pn : Int) (n : Nat) : newChip bn pn [] [⟨1 + (n : Int) % 50, 2, []⟩] = if geoOk bn pn then .ok (freshChip bn.toNat pn.toNat [⟨1 + (n : Int) % 50, 2, []⟩] (fun _ => false)) else .error 20 := by
  unfold newChip
  by_cases h : geoOk bn pn
  · rw [if_pos h, if_pos h]
    have hm : mayFrom 0 [⟨1 + (n : Int) % 50, 2, []⟩] = true := by
      rw [mayFrom_yes ⟨by show ¬ (1 + (n : Int) % 50) ≤ 0; omega, .inr rfl, by simp⟩]
      rfl
    show (if mayFrom 0 _ = true then _ else _) = _
    rw [if_pos hm]
  · rw [if_neg h, if_neg h]
/-- Its event lies in memory of the law's own. -/
theorem evS_bare (w : World) (b : Nat) (x : Int) (hb : Box w b 67 #[.int .i64 x, .int .i64 2, .slice none 0 0]) : EvS w (fun y => y < w.heap.size) (.slice (some ⟨b, 0, none⟩) 1 1) [⟨x, 2, []⟩] := by
  refine ⟨some ⟨b, 0, none⟩, 1, rfl, Nat.le_refl _, fun j e he => ?_⟩
  match j, he with
  | 0, he =>
    cases he
    exact ⟨b, 0, _, rfl, hb.lt, hb.lt, hb.get 0 _ rfl, hb.get 1 _ rfl, hb.get 2 _ rfl, fun W' _ => Rd.nil _ _⟩
/-- Pages do not depend on whether there is power. -/
theorem pagesOf_off (st : Chip) (o : Bool) (n : Int) : ({ st with off := o } : Chip).pagesOf n = st.pagesOf n := rfl
theorem on_self {st : Chip} (h : st.off = true) : ({ st with off := true } : Chip) = st := by
  obtain ⟨bn, pn, blk, evs, ops, off⟩ := st
  dsimp at h
  subst h
  rfl
end Go.Proofs.Ytlgjlhgdpiipbaa
/- Rows of the law's own, in blocks that calls leave; Pages and pages, to a law. -/
namespace Go.Proofs.Ytlgjlhgdpiipbaa
open Go.RowKit
section
variable {α : Type}
/-- A slice of structs, k cells each, in a block of X, reads as this list. -/
def RdX (X : Nat → Prop) (f : α → List Value) (k : Nat) (W : World) (v : Value) (xs : List α) : Prop :=
  ∃ a cap, v = .slice a xs.length cap ∧ xs.length ≤ cap ∧ ∀ j x, xs[j]? = some x → ∃ b o, a = some ⟨b, o, none⟩ ∧ X b ∧ b < W.heap.size ∧ ∀ i u, (f x)[i]? = some u → W.cell? ⟨b, o + j * k + i, none⟩ = some u
theorem RdX.rd {X : Nat → Prop} {f : α → List Value} {k : Nat} {W : World} {v : Value} {xs : List α} (h : RdX X f k W v xs) : RdC f k W v xs := by
  obtain ⟨a, cap, h1, h2, h3⟩ := h
  exact ⟨a, cap, h1, h2, fun j x hj => by obtain ⟨b, o, k1, _, k2, k3⟩ := h3 j x hj; exact ⟨b, o, k1, k2, k3⟩⟩
theorem RdX.same {X : Nat → Prop} {f : α → List Value} {k : Nat} {W W' : World} {v : Value} {xs : List α} (h : RdX X f k W v xs) (hs : Same X W W') : RdX X f k W' v xs := by
  obtain ⟨a, cap, h1, h2, h3⟩ := h
  refine ⟨a, cap, h1, h2, fun j x hj => ?_⟩
  obtain ⟨b, o, k1, k0, k2, k3⟩ := h3 j x hj
  exact ⟨b, o, k1, k0, Nat.lt_of_lt_of_le k2 hs.2, fun i u hu => (cell_of_heap (hs.1 b k0) _).trans (k3 i u hu)⟩
theorem RdX.below {X : Nat → Prop} {f : α → List Value} {k : Nat} {W W' : World} {v : Value} {xs : List α} (h : RdX X f k W v xs) (hb : Below W.heap.size W W') : RdX X f k W' v xs := by
  obtain ⟨a, cap, h1, h2, h3⟩ := h
  refine ⟨a, cap, h1, h2, fun j x hj => ?_⟩
  obtain ⟨b, o, k1, k0, k2, k3⟩ := h3 j x hj
  exact ⟨b, o, k1, k0, Nat.lt_of_lt_of_le k2 hb.size, fun i u hu => (cell_of_heap (hb.block b k2) _).trans (k3 i u hu)⟩
theorem RdX.mono {X Y : Nat → Prop} {f : α → List Value} {k : Nat} {W : World} {v : Value} {xs : List α} (h : RdX X f k W v xs) (hY : ∀ b, X b → Y b) : RdX Y f k W v xs := by
  obtain ⟨a, cap, h1, h2, h3⟩ := h
  refine ⟨a, cap, h1, h2, fun j x hj => ?_⟩
  obtain ⟨b, o, k1, k0, k2, k3⟩ := h3 j x hj
  exact ⟨b, o, k1, hY b k0, k2, k3⟩
theorem RdX.at {X : Nat → Prop} {f : α → List Value} {k : Nat} {W : World} {v : Value} {xs : List α} (h : RdX X f k W v xs) (hx : xs ≠ []) :
    ∃ b o cap, v = .slice (some ⟨b, o, none⟩) xs.length cap ∧ xs.length ≤ cap ∧ X b ∧ b < W.heap.size ∧ ∀ j (hj : j < xs.length) i u, (f xs[j])[i]? = some u → W.cell? ⟨b, o + j * k + i, none⟩ = some u := by
  obtain ⟨a, cap, rfl, hc, h3⟩ := h
  match xs, hx with
  | x :: xs, _ =>
    obtain ⟨b, o, rfl, hX, hb, _⟩ := h3 0 x rfl
    refine ⟨b, o, cap, rfl, hc, hX, hb, fun j hj => ?_⟩
    obtain ⟨b', o', e, _, _, h⟩ := h3 j _ (List.getElem?_eq_getElem hj)
    cases e; exact h
theorem RdX.of_own {f : α → List Value} {k : Nat} (hk : ∀ x, (f x).length = k) {e : TypeId} {W : World} {B : Nat} {v : Value} {xs : List α} (h : W.ownsRow B e k v xs.length (xs.flatMap f)) : RdX (fun b => B ≤ b ∧ b < W.heap.size) f k W v xs := by
  have h' := h
  obtain ⟨_, ⟨rfl, h0⟩ | ⟨g, cap, cur, rfl, hg, hh, hc, hm, hs, ht⟩⟩ := h
  · refine ⟨none, 0, by rw [h0], by omega, fun j x hj => ?_⟩
    have : xs = [] := List.eq_nil_of_length_eq_zero h0
    subst this; simp at hj
  · refine ⟨_, cap, rfl, hc, fun j x hj => ⟨g, 0, rfl, h'.lt g rfl, (h'.lt g rfl).2, fun i u hu => ?_⟩⟩
    have := h'.cells (g := g) rfl (j * k + i) u (flat_at hk xs j x hj i u hu)
    have e : (⟨g, 0, none⟩ : Addr).add (j * k + i) = ⟨g, 0 + j * k + i, none⟩ := by
      unfold Addr.add; split <;> simp_all <;> omega
    rw [← e]; exact this
end
def numL (n : Nat) : List Value := [.int .i64 n]
theorem own_len {W : World} {B : Nat} {e : TypeId} {k n m : Nat} {v : Value} {xs : List Value} (h : W.ownsRow B e k v n xs) (he : n = m) : W.ownsRow B e k v m xs := he ▸ h
/-- Pages, and then the law's pages: the numbers and the pages. -/
def HasPgs (w W : World) (X : Nat → Prop) (c : Nat) (st : Chip) (ps : List (List UInt8)) (e : Ending) (W' : World) : Prop :=
  ∃ ao cp bo cq, e = .returned (.tuple #[.slice ao ps.length cp, .slice bo ps.length cq]) ∧ Has w W' (fun b => X b ∨ (W.heap.size ≤ b ∧ b < W'.heap.size)) c st ∧
    RdX (fun b => W.heap.size ≤ b ∧ b < W'.heap.size) numL 1 W' (.slice ao ps.length cp) (List.range ps.length) ∧ RdX (fun b => W.heap.size ≤ b ∧ b < W'.heap.size) pgL 288 W' (.slice bo ps.length cq) ps ∧ Below W.heap.size W W'
theorem has_pages21 {w W W1 : World} {X : Nat → Prop} {c : Nat} {st : Chip} {ps : List (List UInt8)} {Bl : Nat} {la : Option Addr} {lc : Nat} (hH : Has w W X c st) (hb1 : Below W.heap.size W W1) (h32 : ps.length ≤ 32) (hbx : Box W1 Bl 56 #[.slice la ps.length lc]) (hrd : RdC pgL 288 W1 (.slice la ps.length lc) ps) (hla : ∀ b o, la = some ⟨b, o, none⟩ → W.heap.size ≤ b ∧ b < W1.heap.size) :
    Calls Try.prog 21 #[.func (.func 55) #[] #[.pointer (some ⟨Bl, 0, none⟩)], .int .i64 99] W1 (HasPgs w W1 X c st ps) := by
  refine (seqPg_pages (w := W) (W1 := W1) 99 h32 (by omega) hbx hrd hla).mono ?_
  rintro e W' ⟨ao, cp, bo, cq, rfl, hno, hlo, hb⟩
  have hl : (ps.zipIdx.take 99).length = ps.length := by rw [List.length_take, List.length_zipIdx]; omega
  have ht : ps.zipIdx.take 99 = ps.zipIdx := List.take_of_length_le (by rw [List.length_zipIdx]; omega)
  rw [hl] at hno hlo
  rw [hl]
  rw [ht] at hno hlo
  have e1 : (ps.zipIdx.map fun x => Value.int .i64 (x.2 : Nat)) = (List.range ps.length).flatMap numL := by
    have : (ps.zipIdx.map fun x => Value.int .i64 (x.2 : Nat)) = (ps.zipIdx.map Prod.snd).map fun n => Value.int .i64 ((n : Nat) : Int) := by rw [List.map_map]; rfl
    rw [this, List.zipIdx_map_snd, List.range_eq_range']
    unfold numL
    induction (List.range' 0 ps.length) with
    | nil => rfl
    | cons a r ih => rw [List.map_cons, List.flatMap_cons, ih]; rfl
  have e2 : (ps.zipIdx.flatMap fun x => pgL x.1) = ps.flatMap pgL := by
    have : (ps.zipIdx.flatMap fun x => pgL x.1) = (ps.zipIdx.map Prod.fst).flatMap pgL := by rw [List.flatMap_map]
    rw [this, List.zipIdx_map_fst]
  rw [e1] at hno
  rw [e2] at hlo
  have hH1 := hH.below hb1
  have r1 : (List.range ps.length).length = ps.length := List.length_range
  have q1 := RdX.of_own (k := 1) (f := numL) (fun _ => rfl) (own_len hno r1.symm)
  have q2 := RdX.of_own pgL_len hlo
  exact ⟨ao, cp, bo, cq, rfl, hH1.add hb (fun b hb => by rcases hb with hb | hb; exact .inl hb; exact .inr hb), by have q := q1; unfold RdX at q ⊢; exact q, q2, hb⟩
/-- A page of a row of the law's own, loaded. -/
theorem RdX.load {X : Nat → Prop} {W : World} {b o n cq : Nat} {ps : List (List UInt8)} (h : RdX X pgL 288 W (.slice (some ⟨b, o, none⟩) n cq) ps) (h288 : ∀ p ∈ ps, p.length = 288) (j : Nat) (hj : j < ps.length) : (loadVar 48 ⟨b, o + j * 288, none⟩).run Try.prog W = .ok (pgV ps[j]) W := by
  obtain ⟨a, cap, h1, h2, h3⟩ := h
  cases h1
  obtain ⟨b', o', e, _, _, hc⟩ := h3 j _ (List.getElem?_eq_getElem hj)
  cases e
  have hl := h288 _ (List.getElem_mem hj)
  exact loadPg_at W b (o + j * 288) _ hl (fun i u hu => hc i u (by rw [pgL_eq hl]; exact hu))
theorem read_len {w W : World} {X : Nat → Prop} {c : Nat} {st : Chip} (h : Has w W X c st) (n p : Int) : (st.readAt n p).1.length = 288 := by
  obtain ⟨Fm, Fr, L, hC, hge, hX, hw⟩ := h
  exact readAt_len hC n p
theorem does_len {w W : World} {X : Nat → Prop} {c : Nat} {st : Chip} (h : Has w W X c st) (q : Cl) : (st.does q).1.1.length = 288 := by
  unfold Chip.does
  split
  · exact rep_len _ _
  split
  · exact rep_len _ _
  split
  · exact read_len h _ _
  split <;> exact rep_len _ _
end Go.Proofs.Ytlgjlhgdpiipbaa
/- What the rows of this seat share: arguments as plain data (a geometry, numbers, calls, events); a law that returns true. -/
namespace Go.Proofs.Ytlgjlhgdpiipbaa
open Go.ChangeShapes Go.WideShapes Go.ChangeAt Go.RowKit
section
variable {H : Type} {enc : TypeId × Value → H} {P : Program}
/-- What is read as data is read as the same behind a call that leaves old blocks as they are. -/
theorem below_trodAll (hl : laidOutB P = true) {W W' : World} (hn : Below W.heap.size W W') :
    ∀ (ts : List TypeId) (vs : List Value) (ds : List (DataW H)) (ps : List MemPlace),
    (∀ t ∈ ts, P.readableRec t = true ∧ t < P.types.size) → (∀ x ∈ ps, x.block < W.heap.size) →
    DataW.TrodAll enc P W 0 (fun _ => true) true ts vs ds ps → DataW.TrodAll enc P W' 0 (fun b => decide (b < W.heap.size)) true ts vs ds ps := by
  intro ts
  induction ts with
  | nil =>
    intro vs ds ps _ _ h
    obtain ⟨rfl, rfl, rfl⟩ := trodAll_nil h
    exact trodAll_mk0
  | cons t ts ih =>
    intro vs ds ps ht hp h
    obtain ⟨v0, vs0, d0, ds0, p0, q0, rfl, rfl, rfl, h0, r0⟩ := trodAll_cons h
    exact trodAll_cons_mk (Below.trod hl (ht t (List.mem_cons_self ..)).1 (ht t (List.mem_cons_self ..)).2 h0 hn fun x hx => hp x (List.mem_append_left _ hx))
      (ih _ _ _ (fun u hu => ht u (List.mem_cons_of_mem _ hu)) (fun x hx => hp x (List.mem_append_right _ hx)) r0)
/-- A law that returns true and makes nothing but new blocks does what its row says. -/
theorem contract_true (hl : laidOutB P = true) {k : FuncId} {f : Func} {s : ChangeSpec} (hv : s.vars = []) (hr : f.resultTypes = #[4]) (h4 : P.underlying 4 = some .bool)
    (hp : ∀ t ∈ f.params.toList, P.readableRec t = true ∧ t < P.types.size) {W : World} {args : Array Value} {ds gs : List (DataW H)} {before : List MemPlace}
    (hfn : s.fn H ds = { results := [.lit (.bool true)], args := ds }) (hW : DataW.Whole enc P f.params.toList s.vars false W args.toList ds gs before)
    (hc : Calls P k args W fun e W' => e = .returned (.bool true) ∧ Below W.heap.size W W') :
    Calls P k args W fun e W' => ∃ v, e = .returned v ∧ s.post enc P f false true false false W args v W' := by
  have hW' := hW
  obtain ⟨p, q, hA, hV, rfl, hfz, hnd⟩ := hW
  rw [hv] at hV
  obtain ⟨rfl, rfl⟩ := trodVars_none hV
  have hlt : ∀ x ∈ p ++ [], x.block < W.heap.size := fun x hx => by simpa using hW'.lt x hx
  refine hc.mono fun e W' ⟨he, hb⟩ => ?_
  subst he
  refine ⟨_, rfl, ds, [], p ++ [], [], p, [], hW', ?_, ?_, ?_, hb.frame _, fun h => by cases h⟩
  · rw [hr, List.append_nil, hfn]
    exact trodAll_cons_mk (shut_bool h4 true) trodAll_mk0
  · rw [List.append_nil, hfn]
    exact below_trodAll hl hb _ _ _ _ hp (fun x hx => hlt x (List.mem_append_left _ hx)) hA
  · rw [List.append_nil, hfn, hv]
    exact rfl
end
theorem laidOut : laidOutB Try.prog = true := by kernel_rfl
theorem own : ownKnob Try.prog.godebug = none := by kernel_rfl
theorem cell_lt {W : World} {b o : Nat} {v : Value} (h : W.cell? ⟨b, o, none⟩ = some v) : b < W.heap.size := by
  rcases Nat.lt_or_ge b W.heap.size with h' | h'
  · exact h'
  · have : W.heap[b]? = none := by simp [h']
    simp [World.cell?, this] at h
section
variable {H : Type} {enc : TypeId × Value → H} {W : World} {base : Nat} {sp : Nat → Bool} {held : Bool}
theorem open_bytes {fuel : Nat} {c : Value} {x : DataW H × List MemPlace} (hsp : ∀ b, sp b = true) (h : DataW.trod enc Try.prog W base sp held fuel 65 [c] = some x) :
    ∃ (l : List UInt8) (a : Option Addr) (cap : Nat), c = .slice a l.length cap ∧ RdB W (.slice a l.length cap) l := by
  rcases open_ints Try.underlying65 Try.underlying5 (by kernel_rfl) h with ⟨hcs, hx⟩ | ⟨a, len, cap, zs, hcs, _, hl, hmx, hz, hx, hcell, hwz⟩
  · simp at hcs; subst hcs
    exact ⟨[], none, 0, rfl, Rd.nil _ _⟩
  · simp at hcs; subst hcs
    rw [hsp a.block, if_pos rfl] at hz
    obtain ⟨l, hl'⟩ : ∃ l : List UInt8, l = (zs.take len).map fun z => UInt8.ofNat z.toNat := ⟨_, rfl⟩
    have hll : l.length = len := by rw [hl']; simp; omega
    refine ⟨l, some a, cap, by rw [hll], some a, cap, rfl, by omega, fun j y hj => ?_⟩
    have hjl : j < l.length := (List.getElem?_eq_some_iff.1 hj).1
    have hjz : j < zs.length := by omega
    have hc := hcell j hjz
    have hs := World.cell?_spot (hcell 0 (by omega))
    obtain ⟨b, o, spot⟩ := a
    have : spot = none := by simpa [Addr.add] using hs
    subst this
    have he : (⟨b, o, none⟩ : Addr).add j = ⟨b, o + j, none⟩ := by unfold Addr.add; split <;> simp_all
    rw [he] at hc
    refine ⟨b, o, rfl, cell_lt hc, ?_⟩
    rw [hc]
    have hw := bounds_u8 (hwz (zs[j]) (List.getElem_mem hjz))
    rw [hl', List.getElem?_map, List.getElem?_take_of_lt (by omega), List.getElem?_eq_getElem hjz] at hj
    simp only [Option.map_some, Option.some.injEq] at hj
    subst hj
    rw [List.getD_eq_getElem?_getD, List.getElem?_eq_getElem hjz]
    unfold byteV
    simp only [Option.getD_some, Option.some.injEq, Value.int.injEq, true_and, UInt8.toNat_ofNat']
    have : zs[j].toNat < 256 := by omega
    omega
/-- A slice of structs, by what each one's cells are. -/
theorem open_rows {α : Type} [Inhabited α] {f : α → List Value} {ok : α → Prop} {k t e : Nat} {fuel : Nat} {c : Value} {x : DataW H × List MemPlace} (hk : ∀ y, (f y).length = k) (hk0 : 0 < k) (ht : Try.prog.underlying t = some (.slice e)) (he : Try.prog.cellsOf e = k)
    (hcell : ∀ (n : Nat) (cs : List Value) (x : DataW H × List MemPlace), cs.length = k → DataW.trod enc Try.prog W base sp held n e cs = some x → ∃ y, cs = f y ∧ ok y)
    (h : DataW.trod enc Try.prog W base sp held fuel t [c] = some x) : ∃ xs : List α, RdC f k W c xs ∧ ∀ y ∈ xs, ok y := by
  rcases Go.Deep.open_slice ht h with ⟨hcs, hx⟩ | ⟨a, len, cap, m, n, D, Pl, hcs, _, hl, hmx, hm, hx, hi⟩
  · simp at hcs; subst hcs
    exact ⟨[], RdC.nil _ _ _, fun y hy => by simp at hy⟩
  · simp at hcs; subst hcs
    have hlm : len ≤ m := by rw [hm]; split <;> omega
    have hE : ∀ i, i < m → ∃ y : α, (∀ j u, (f y)[j]? = some u → W.cell? (a.add (i * k + j)) = some u) ∧ ok y := by
      intro i him
      obtain ⟨cs, hcs, htr⟩ := hi i him
      rw [he] at hcs
      obtain ⟨_, hcl, hat⟩ := World.cells?_some hcs
      obtain ⟨y, hy, hok⟩ := hcell n cs _ hcl htr
      refine ⟨y, fun j u hu => ?_, hok⟩
      rw [← hy] at hu
      have hj := (List.getElem?_eq_some_iff.1 hu).1
      have := hat j (by rw [← hcl]; exact hj)
      rw [Go.Deep.add_add] at this
      rw [this]; exact hu
    have hch : ∃ g : Nat → α, ∀ i, i < m → (∀ j u, (f (g i))[j]? = some u → W.cell? (a.add (i * k + j)) = some u) ∧ ok (g i) :=
      ⟨fun i => if h : i < m then (hE i h).choose else default, fun i him => by
        simp only [him, dite_true]; exact (hE i him).choose_spec⟩
    obtain ⟨g, hgk⟩ := hch
    have hg := fun i h => (hgk i h).1
    have hxl : ((List.range len).map g).length = len := by simp
    refine ⟨(List.range len).map g, ⟨some a, cap, by rw [hxl], by omega, fun j y hj => ?_⟩, fun y hy => by
      obtain ⟨i, hi', rfl⟩ := List.mem_map.1 hy
      exact (hgk i (by have := List.mem_range.1 hi'; omega)).2⟩
    have hjl : j < len := by have := (List.getElem?_eq_some_iff.1 hj).1; simpa using this
    obtain rfl : g j = y := by simpa [hjl] using hj
    have h0 : 0 < (f (g 0)).length := by rw [hk]; exact hk0
    have hs := World.cell?_spot (hg 0 (by omega) 0 _ (List.getElem?_eq_getElem h0))
    obtain ⟨b, o, spot⟩ := a
    have : spot = none := by simpa [Addr.add] using hs
    subst this
    have he : ∀ k, (⟨b, o, none⟩ : Addr).add k = ⟨b, o + k, none⟩ := fun k => by unfold Addr.add; split <;> simp_all
    have hj0 : 0 < (f (g j)).length := by rw [hk]; exact hk0
    have hlt := hg j (by omega) 0 _ (List.getElem?_eq_getElem hj0)
    rw [he] at hlt
    refine ⟨b, o, rfl, cell_lt hlt, fun i u hu => ?_⟩
    have := hg j (by omega) i u hu
    rw [he] at this
    rw [Nat.add_assoc]
    exact this
set_option maxRecDepth 100000 in
theorem open_geo {b0 : Nat} {r : Reach} {v : Value} {d : DataW H} {p : List MemPlace} (hv : Value.okWide Try.prog W r b0 23 v) (h : DataW.Trod enc Try.prog W base sp held 23 v d p) : ∃ bn pn : Int, v = .agg #[.int .i64 bn, .int .i64 pn] := by
  have h23 : Try.prog.cellsOf 23 = 2 := by kernel_rfl
  have k3 : Try.prog.cellsOf 3 = 1 := by kernel_rfl
  obtain ⟨cs, rfl, hsz⟩ := okWide_struct Try.underlying23 hv
  obtain ⟨fuel, hf⟩ := h
  obtain ⟨ys, n, _, hy, _, hyl, hg⟩ := DataW.trod_struct Try.underlying23 hf
  obtain ⟨cl⟩ := cs
  match cl, hsz.trans h23, ys, hyl with
  | [c0, c1], _, [y0, y1], _ =>
  have q0 : DataW.trod enc Try.prog W base sp held n 3 (([c0, c1].drop 0).take (Try.prog.cellsOf 3)) = some y0 := hg 0 _ rfl
  have q1 : DataW.trod enc Try.prog W base sp held n 3 (([c0, c1].drop 1).take (Try.prog.cellsOf 3)) = some y1 := hg 1 _ rfl
  rw [k3] at q0 q1
  obtain ⟨n1, e1, _, _⟩ := DataW.trod_int Try.underlying3 q0
  obtain ⟨n2, e2, _, _⟩ := DataW.trod_int Try.underlying3 q1
  obtain rfl : c0 = .int .i64 n1 := by simpa using e1
  obtain rfl : c1 = .int .i64 n2 := by simpa using e2
  exact ⟨n1, n2, rfl⟩
set_option maxRecDepth 100000 in
theorem cells_cl {n : Nat} {cs : List Value} {x : DataW H × List MemPlace} (hcl : cs.length = 5) (htr : DataW.trod enc Try.prog W base sp held n 40 cs = some x) : ∃ c : Cl, cs = clL c ∧ True := by
  have k3 : Try.prog.cellsOf 3 = 1 := by kernel_rfl
  have k4 : Try.prog.cellsOf 4 = 1 := by kernel_rfl
  have k5 : Try.prog.cellsOf 5 = 1 := by kernel_rfl
  obtain ⟨ys, n', _, hy, _, hyl, hf⟩ := DataW.trod_struct Try.underlying40 htr
  match cs, hcl, ys, hyl with
  | [u0, u1, u2, u3, u4], _, [z0, z1, z2, z3, z4], _ =>
  have q0 : DataW.trod enc Try.prog W base sp held n' 3 (([u0, u1, u2, u3, u4].drop 0).take (Try.prog.cellsOf 3)) = some z0 := hf 0 _ rfl
  have q1 : DataW.trod enc Try.prog W base sp held n' 3 (([u0, u1, u2, u3, u4].drop 1).take (Try.prog.cellsOf 3)) = some z1 := hf 1 _ rfl
  have q2 : DataW.trod enc Try.prog W base sp held n' 3 (([u0, u1, u2, u3, u4].drop 2).take (Try.prog.cellsOf 3)) = some z2 := hf 2 _ rfl
  have q3 : DataW.trod enc Try.prog W base sp held n' 4 (([u0, u1, u2, u3, u4].drop 3).take (Try.prog.cellsOf 4)) = some z3 := hf 3 _ rfl
  have q4 : DataW.trod enc Try.prog W base sp held n' 5 (([u0, u1, u2, u3, u4].drop 4).take (Try.prog.cellsOf 5)) = some z4 := hf 4 _ rfl
  rw [k3] at q0 q1 q2
  rw [k4] at q3
  rw [k5] at q4
  obtain ⟨n0, e0, _, _⟩ := DataW.trod_int Try.underlying3 q0
  obtain ⟨n1, e1, _, _⟩ := DataW.trod_int Try.underlying3 q1
  obtain ⟨n2, e2, _, _⟩ := DataW.trod_int Try.underlying3 q2
  obtain ⟨b3, e3, _⟩ := DataW.trod_bool Try.underlying4 q3
  obtain ⟨n4, e4, _, w4⟩ := DataW.trod_int Try.underlying5 q4
  obtain rfl : u0 = .int .i64 n0 := by simpa using e0
  obtain rfl : u1 = .int .i64 n1 := by simpa using e1
  obtain rfl : u2 = .int .i64 n2 := by simpa using e2
  obtain rfl : u3 = .bool b3 := by simpa using e3
  obtain rfl : u4 = .int .u8 n4 := by simpa using e4
  have hb := bounds_u8 w4
  refine ⟨⟨n0, n1, n2, b3, UInt8.ofNat n4.toNat⟩, ?_, trivial⟩
  unfold clL
  have : ((UInt8.ofNat n4.toNat).toNat : Int) = n4 := by
    rw [UInt8.toNat_ofNat']
    have : n4.toNat < 256 := by omega
    omega
  dsimp only
  rw [this]
set_option maxRecDepth 100000 in
/-- One call, handed in as a value. -/
theorem open_call {b0 : Nat} {r : Reach} {v : Value} {d : DataW H} {p : List MemPlace} (hv : Value.okWide Try.prog W r b0 40 v) (h : DataW.Trod enc Try.prog W base sp held 40 v d p) : ∃ c : Cl, v = clV c := by
  have h40 : Try.prog.cellsOf 40 = 5 := by kernel_rfl
  obtain ⟨cs, rfl, hsz⟩ := okWide_struct Try.underlying40 hv
  obtain ⟨fuel, hf⟩ := h
  obtain ⟨cl⟩ := cs
  obtain ⟨c, hc, _⟩ := cells_cl (W := W) (n := fuel) (cs := cl) (hsz.trans h40) hf
  exact ⟨c, by rw [hc]; rfl⟩
theorem rdB_same {W' : World} {v : Value} {l : List UInt8} (h : RdB W v l) (hs : Same (fun b => b < W.heap.size) W W') : RdB W' v l := by
  obtain ⟨a, cap, h1, h2, h3⟩ := h
  refine ⟨a, cap, h1, h2, fun j x hj => ?_⟩
  obtain ⟨b, o, k1, k2, k3⟩ := h3 j x hj
  exact ⟨b, o, k1, Nat.lt_of_lt_of_le k2 hs.2, (cell_of_heap (hs.1 b k2) _).trans k3⟩
/-- An event's cells, with its mask's slice. -/
def evL (x : Ev × Value) : List Value := [.int .i64 x.1.at_, .int .i64 x.1.kind, x.2]
theorem evL_len (x : Ev × Value) : (evL x).length = 3 := rfl
set_option maxRecDepth 100000 in
theorem cells_ev {n : Nat} {cs : List Value} {x : DataW H × List MemPlace} (hsp : ∀ b, sp b = true) (hcl : cs.length = 3) (htr : DataW.trod enc Try.prog W base sp held n 67 cs = some x) : ∃ e : Ev × Value, cs = evL e ∧ RdB W e.2 e.1.mask := by
  have k2 : Try.prog.cellsOf 2 = 1 := by kernel_rfl
  have k3 : Try.prog.cellsOf 3 = 1 := by kernel_rfl
  have k65 : Try.prog.cellsOf 65 = 1 := by kernel_rfl
  obtain ⟨ys, n', _, hy, _, hyl, hf⟩ := DataW.trod_struct Try.underlying67 htr
  match cs, hcl, ys, hyl with
  | [u0, u1, u2], _, [z0, z1, z2], _ =>
  have q0 : DataW.trod enc Try.prog W base sp held n' 2 (([u0, u1, u2].drop 0).take (Try.prog.cellsOf 2)) = some z0 := hf 0 _ rfl
  have q1 : DataW.trod enc Try.prog W base sp held n' 3 (([u0, u1, u2].drop 1).take (Try.prog.cellsOf 3)) = some z1 := hf 1 _ rfl
  have q2 : DataW.trod enc Try.prog W base sp held n' 65 (([u0, u1, u2].drop 2).take (Try.prog.cellsOf 65)) = some z2 := hf 2 _ rfl
  rw [k2] at q0
  rw [k3] at q1
  rw [k65] at q2
  obtain ⟨n0, e0, _, _⟩ := DataW.trod_int Try.underlying2 q0
  obtain ⟨n1, e1, _, _⟩ := DataW.trod_int Try.underlying3 q1
  obtain rfl : u0 = .int .i64 n0 := by simpa using e0
  obtain rfl : u1 = .int .i64 n1 := by simpa using e1
  obtain ⟨l, a, cap, hc, hr⟩ := open_bytes hsp (show DataW.trod enc Try.prog W base sp held n' 65 [u2] = some z2 from q2)
  exact ⟨(⟨n0, n1, l⟩, u2), rfl, by rw [hc]; exact hr⟩
instance : Inhabited Cl := ⟨⟨0, 0, 0, false, 0⟩⟩
instance : Inhabited Ev := ⟨⟨0, 0, []⟩⟩
instance : Inhabited Value := ⟨.nilFunc⟩
set_option maxRecDepth 100000 in
theorem open_calls {b0 : Nat} {r : Reach} {v : Value} {d : DataW H} {p : List MemPlace} (hv : Value.okWide Try.prog W r b0 37 v) (h : DataW.Trod enc Try.prog W base sp held 37 v d p) : ∃ xs, RdC clL 5 W v xs := by
  obtain ⟨a0, len0, cap0, rfl⟩ := okWide_slice Try.underlying37 hv
  obtain ⟨fuel, hf⟩ := h
  obtain ⟨xs, h1, _⟩ := open_rows (f := clL) clL_len (by decide) Try.underlying37 (by kernel_rfl) (fun n cs x h1 h2 => cells_cl h1 h2) hf
  exact ⟨xs, h1⟩
set_option maxRecDepth 100000 in
theorem calls_len {v : Value} {d : DataW H} {p : List MemPlace} {xs : List Cl} (hr : RdC clL 5 W v xs) (h : DataW.Trod enc Try.prog W base sp held 37 v d p) : xs.length ≤ 9223372036854775807 := by
  obtain ⟨a0, c0, rfl⟩ := hr.len
  obtain ⟨fuel, hf⟩ := h
  rcases Go.Deep.open_slice Try.underlying37 (show DataW.trod enc Try.prog W base sp held fuel 37 [Value.slice a0 xs.length c0] = some (d, p) from hf) with ⟨hcs, hx⟩ | ⟨a, len, cap, m, n, D, Pl, hcs, _, hl, hmx, hm, hx, hi⟩
  · simp at hcs; rw [hcs.2.1]; simp
  · simp at hcs
    obtain ⟨_, e, _⟩ := hcs
    unfold maxLen at hmx
    omega
set_option maxRecDepth 100000 in
theorem open_nums {b0 : Nat} {r : Reach} {v : Value} {d : DataW H} {p : List MemPlace} (hv : Value.okWide Try.prog W r b0 24 v) (h : DataW.Trod enc Try.prog W base sp held 24 v d p) : ∃ xs, IntS W W.heap.size v xs ∧ xs.length ≤ 9223372036854775807 := by
  obtain ⟨a0, len0, cap0, rfl⟩ := okWide_slice Try.underlying24 hv
  obtain ⟨fuel, hf⟩ := h
  have hcell : ∀ (n : Nat) (cs : List Value) (x : DataW H × List MemPlace), cs.length = 1 → DataW.trod enc Try.prog W base sp held n 3 cs = some x → ∃ y : Int, cs = [Value.int .i64 y] ∧ True := by
    intro n cs x _ h2
    obtain ⟨m, e, _, _⟩ := DataW.trod_int Try.underlying3 h2
    exact ⟨m, e, trivial⟩
  obtain ⟨xs, h1, _⟩ := open_rows (α := Int) (f := fun y => [Value.int .i64 y]) (fun _ => rfl) (by decide) Try.underlying24 (by kernel_rfl) hcell hf
  have hl : xs.length ≤ 9223372036854775807 := by
    obtain ⟨a1, c1, e1⟩ := h1.len
    rw [e1] at hf
    rcases Go.Deep.open_slice Try.underlying24 (show DataW.trod enc Try.prog W base sp held fuel 24 [Value.slice a1 xs.length c1] = some (d, p) from hf) with ⟨hcs, hx⟩ | ⟨a, len, cap, m, n, D, Pl, hcs, _, hl, hmx, hm, hx, hi⟩
    · simp at hcs; rw [hcs.2.1]; simp
    · simp at hcs
      obtain ⟨_, e, _⟩ := hcs
      unfold maxLen at hmx
      omega
  refine ⟨xs, ?_, hl⟩
  obtain ⟨a, cap, e, hc, h3⟩ := h1
  refine ⟨a, cap, e, hc, fun j x hj => ?_⟩
  obtain ⟨b, o, k1, k2, k3⟩ := h3 j x hj
  have := k3 0 _ rfl
  rw [Nat.mul_one, Nat.add_zero] at this
  exact ⟨b, o, k1, k2, this⟩
set_option maxRecDepth 100000 in
theorem open_evs {b0 : Nat} {r : Reach} {v : Value} {d : DataW H} {p : List MemPlace} (hsp : ∀ b, sp b = true) (hv : Value.okWide Try.prog W r b0 25 v) (h : DataW.Trod enc Try.prog W base sp held 25 v d p) : ∃ evs, EvS W (fun b => b < W.heap.size) v evs := by
  obtain ⟨a0, len0, cap0, rfl⟩ := okWide_slice Try.underlying25 hv
  obtain ⟨fuel, hf⟩ := h
  obtain ⟨xs, h1, h2⟩ := open_rows (f := evL) evL_len (by decide) Try.underlying25 (by kernel_rfl) (fun n cs x h1 h2 => cells_ev hsp h1 h2) hf
  refine ⟨xs.map Prod.fst, ?_⟩
  obtain ⟨a, cap, e, hc, h3⟩ := h1
  refine ⟨a, cap, by rw [List.length_map]; exact e, by rw [List.length_map]; exact hc, fun j x hj => ?_⟩
  rw [List.getElem?_map] at hj
  obtain ⟨y, hy, rfl⟩ := Option.map_eq_some_iff.1 hj
  obtain ⟨b, o, k1, k2, k3⟩ := h3 j y hy
  have hm := h2 y (List.mem_iff_getElem?.2 ⟨j, hy⟩)
  exact ⟨b, o, y.2, k1, k2, k2, k3 0 _ rfl, k3 1 _ rfl, k3 2 _ rfl, fun W' hs => rdB_same hm hs⟩
set_option maxRecDepth 100000 in
theorem open_int {b0 : Nat} {r : Reach} {v : Value} (hv : Value.okWide Try.prog W r b0 3 v) : ∃ n : Int, v = .int .i64 n := okWide_int Try.underlying3 hv
set_option maxRecDepth 100000 in
theorem bulk_pos : ∀ d : DataW H, 1 ≤ Rows.uptoBulk d
  | .lit (.string bytes) => by show 1 ≤ bytes.length + 1; omega
  | .lit (.bool _) => Nat.le_refl _
  | .lit (.int _ _) => Nat.le_refl _
  | .lit (.float .f32 _) => Nat.le_refl _
  | .lit (.float .f64 _) => Nat.le_refl _
  | .lit .nil => Nat.le_refl _
  | .nil => Nat.le_refl _
  | .ptr d => by show 1 ≤ Rows.uptoBulk d + 1; omega
  | .slice elems spare => by show 1 ≤ Rows.uptoBulkAll elems + Rows.uptoBulkAll spare + 1; omega
  | .agg parts => by show 1 ≤ Rows.uptoBulkAll parts + 1; omega
  | .iface _ d => by show 1 ≤ Rows.uptoBulk d + 1; omega
  | .map entries => by show 1 ≤ Rows.uptoBulkEntries entries + 1; omega
  | .held _ => Nat.le_refl _
theorem bulkAll_len : ∀ l : List (DataW H), l.length ≤ Rows.uptoBulkAll l
  | [] => Nat.le_refl _
  | d :: r => by
    have h1 := bulk_pos d
    have h2 := bulkAll_len r
    show r.length + 1 ≤ Rows.uptoBulk d + Rows.uptoBulkAll r
    omega
set_option maxRecDepth 100000 in
theorem evs_bulk {v : Value} {d : DataW H} {p : List MemPlace} {evs : List Ev} {R : Nat → Prop} (hr : EvS W R v evs) (h : DataW.Trod enc Try.prog W base sp held 25 v d p) : evs.length ≤ Rows.uptoBulk d := by
  obtain ⟨a0, c0, rfl, _⟩ := hr
  obtain ⟨fuel, hf⟩ := h
  rcases Go.Deep.open_slice Try.underlying25 (show DataW.trod enc Try.prog W base sp held fuel 25 [Value.slice a0 evs.length c0] = some (d, p) from hf) with ⟨hcs, hx⟩ | ⟨a, len, cap, m, n, D, Pl, hcs, _, hl, hmx, hm, hx, hi⟩
  · simp at hcs; rw [hcs.2.1]; simp
  · simp at hcs
    obtain ⟨_, e, _⟩ := hcs
    have hd := (Prod.mk.inj hx).1
    rw [hd]
    show evs.length ≤ Rows.uptoBulkAll ((List.range len).map D) + _ + 1
    have := bulkAll_len ((List.range len).map D)
    rw [List.length_map, List.length_range] at this
    omega
end
end Go.Proofs.Ytlgjlhgdpiipbaa
/- NandStays, plainly: a page is changed by no call but one on it, or an erase of its block. -/
namespace Go.Proofs.Ytlgjlhgdpiipbaa
open Go.RowKit
/-- Events fail or cut. -/
def Chip.kinds (st : Chip) : Prop := ∀ e ∈ st.evs, e.kind = 1 ∨ e.kind = 2
theorem mayFrom_kinds : ∀ {evs : List Ev} {last : Int}, mayFrom last evs = true → ∀ e ∈ evs, e.kind = 1 ∨ e.kind = 2
  | [], _, _, e, he => by simp at he
  | a :: r, last, h, e, he => by
    by_cases ha : evOk last a
    · rw [mayFrom_yes ha] at h
      rcases List.mem_cons.1 he with rfl | he
      · exact ha.2.1
      · exact mayFrom_kinds h e he
    · rw [mayFrom_no ha] at h; cases h
theorem fresh_kinds {bn pn : Int} {bad : List Int} {evs : List Ev} {st : Chip} (h : newChip bn pn bad evs = .ok st) : st.kinds := by
  unfold newChip at h
  split at h
  · split at h
    · cases h
    · split at h
      · rename_i hm
        cases h
        exact mayFrom_kinds hm
      · cases h
  · cases h
theorem newChip_err {bn pn : Int} {bad : List Int} {evs : List Ev} {e : Int} (h : newChip bn pn bad evs = .error e) : ¬ e = 0 := by
  unfold newChip at h
  split at h
  · split at h
    · cases h; decide
    · split at h
      · cases h
      · cases h; decide
  · cases h; decide
theorem EvS.mono {W : World} {R R' : Nat → Prop} {v : Value} {evs : List Ev} (h : EvS W R v evs) (hR : ∀ b, R b → R' b) : EvS W R' v evs := by
  obtain ⟨a, cap, h1, h2, h3⟩ := h
  refine ⟨a, cap, h1, h2, fun j e he => ?_⟩
  obtain ⟨b, o, mv, k1, k2, k3, k4, k5, k6, k7⟩ := h3 j e he
  exact ⟨b, o, mv, k1, k2, hR b k3, k4, k5, k6, fun W2 h2 => k7 W2 ⟨fun x hx => h2.1 x (hR x hx), h2.2⟩⟩
theorem nextEv_sub (st : Chip) : ∀ e ∈ st.nextEv.2.evs, e ∈ st.evs := by
  rcases he : st.evs with _ | ⟨a, r⟩
  · rw [Chip.nextEv_nil he]; intro e h; rw [← he]; exact h
  · by_cases ha : a.at_ = st.ops + 1
    · rw [Chip.nextEv_yes he ha]; intro e h; exact List.mem_cons_of_mem _ h
    · rw [Chip.nextEv_no he ha]; intro e h; rw [← he]; exact h
theorem nextEv_kind {st : Chip} (hk : st.kinds) : st.nextEv.1 = zeroEv ∨ st.nextEv.1.kind = 1 ∨ st.nextEv.1.kind = 2 := by
  unfold Chip.nextEv
  rcases he : st.evs with _ | ⟨a, r⟩
  · exact .inl rfl
  · simp only
    split
    · exact .inr (hk a (by rw [he]; exact List.mem_cons_self ..))
    · exact .inl rfl
theorem program_evs (st : Chip) (n p : Int) (pg : List UInt8) : ∀ e ∈ (st.program n p pg).2.evs, e ∈ st.evs := by
  unfold Chip.program
  split
  · exact fun e h => h
  · split
    · exact fun e h => h
    · split
      · exact fun e h => h
      · intro e h
        rw [show ∀ s : Chip, (s.ends st.nextEv.1.kind).2.2.evs = s.evs from fun s => (ends_law s _).2.2.2.1] at h
        exact nextEv_sub st e h
theorem erase_evs (st : Chip) (n : Int) : ∀ e ∈ (st.erase n).2.evs, e ∈ st.evs := by
  unfold Chip.erase
  split
  · exact fun e h => h
  · split
    · exact fun e h => h
    · split
      · intro e h
        rw [(judged_law _ _ _).2.2.2.2.2.2.1, (torn_law _ _ _).2.2.2.2.2.1, (worn_law _ _).2.2.2.2.2.1] at h
        exact nextEv_sub st e h
      · intro e h
        rw [(cleared_law _ _).2.2.2.2.2.1, (worn_law _ _).2.2.2.2.2.1] at h
        exact nextEv_sub st e h
theorem does_kinds {st : Chip} (h : st.kinds) (o : Cl) : (st.does o).2.kinds := by
  have : ∀ e ∈ (st.does o).2.evs, e ∈ st.evs := by
    unfold Chip.does
    split
    · exact program_evs st _ _ _
    split
    · exact erase_evs st _
    split
    · exact fun e h => h
    split <;> exact fun e h => h
  exact fun e he => h e (this e he)
theorem program_zero {st : Chip} (hk : st.kinds) {n p : Int} {pg : List UInt8} (h : (st.program n p pg).1 = 0) : st.nextEv.1.mask = [] := by
  unfold Chip.program at h
  split at h
  · rename_i h0; exact absurd h h0
  split at h
  · exact absurd h (by show ¬ (23 : Int) = 0; decide)
  split at h
  · exact absurd h (by show ¬ (24 : Int) = 0; decide)
  dsimp only at h
  rcases nextEv_kind hk with e | e
  · rw [e]; rfl
  · rcases (ends_law ((st.nextEv.2.setPage n.toNat p.toNat (mask pg st.nextEv.1.mask)).setLook n.toNat { ((st.nextEv.2.setPage n.toNat p.toNat (mask pg st.nextEv.1.mask)).blk n.toNat).look with next := p + 1 }) st.nextEv.1.kind).2.2.2.2.2 with ⟨_, _, h2, h3⟩ | ⟨h1, _⟩ | ⟨h1, _⟩
    · omega
    · rw [h1] at h; exact absurd h (by decide)
    · rw [h1] at h; exact absurd h (by decide)
theorem there_geo {st st' : Chip} (h : st'.bn = st.bn) (n : Int) : st'.there n = st.there n := by unfold Chip.there; rw [h]
theorem exec_eqi {ev : Operand → Value} {o : Oper} {W : World} (x y : Operand) (u : TypeId) (ho : o.op = Op.binOp .eql 3 x y u) (a b : Int) (hx : ev x = .int .i64 a) (hy : ev y = .int .i64 b) (v : Bool) (hv : decide (a = b) = v) : (execOp ev o).run Try.prog W = .ok (.value (.bool v)) W := by
  subst hv
  simp [execOp, ho, hx, hy, eqGuard, binOp, Result.andThen, go_sem]
  by_cases h : a = b <;> simp [h]
theorem exec_eqi27 {ev : Operand → Value} {o : Oper} {W : World} (x y : Operand) (u : TypeId) (ho : o.op = Op.binOp .eql 27 x y u) (a b : Int) (hx : ev x = .int .i64 a) (hy : ev y = .int .i64 b) (v : Bool) (hv : decide (a = b) = v) : (execOp ev o).run Try.prog W = .ok (.value (.bool v)) W := by
  subst hv
  simp [execOp, ho, hx, hy, eqGuard, binOp, Result.andThen, go_sem]
  by_cases h : a = b <;> simp [h]
theorem exec_nei {ev : Operand → Value} {o : Oper} {W : World} (x y : Operand) (u : TypeId) (ho : o.op = Op.binOp .neq 3 x y u) (a b : Int) (hx : ev x = .int .i64 a) (hy : ev y = .int .i64 b) (v : Bool) (hv : decide (a ≠ b) = v) : (execOp ev o).run Try.prog W = .ok (.value (.bool v)) W := by
  subst hv
  simp [execOp, ho, hx, hy, eqGuard, binOp, Result.andThen, go_sem]
  by_cases h : a = b <;> simp [h]
/-- A call on this page. -/
def Cl.on (o : Cl) (n : Int) (k : Nat) : Bool := decide (o.blk = n ∧ (o.do_ = 1 ∨ (o.do_ = 0 ∧ (k : Int) = o.page)))
theorem stays {st : Chip} (hk : st.kinds) (o : Cl) (hn : o.next = false) (n : Int) (i : Nat) (hi : n = i) (k : Nat) (hkp : k < st.pn) :
    (o.on n k = false → ((st.does o).2.blk i).pages k = (st.blk i).pages k) ∧ (o.on n k = true → o.do_ = 0 → (st.does o).1.2 = 0 → ((st.does o).2.blk i).pages k = rep 288 o.fill) := by
  have hp : st.pageOf o = o.page := by unfold Chip.pageOf; rw [hn]; rfl
  unfold Cl.on
  unfold Chip.does
  rw [hp]
  split
  · rename_i h0
    have h1 : ¬ o.do_ = 1 := by omega
    dsimp only
    rcases program_law st o.blk o.page (rep 288 o.fill) with ⟨e, hr⟩ | ⟨i', j, e1, e2, hj, _, t, _, hpg⟩
    · rw [e]
      refine ⟨fun _ => rfl, fun _ _ h => ?_⟩
      rcases hr with ⟨h2, _⟩ | ⟨_, h2 | h2 | h2⟩ <;> rw [h2] at h <;> exact absurd h (by decide)
    · by_cases hii : i = i'
      · subst hii
        rw [hpg]
        dsimp only
        refine ⟨fun hoff => ?_, fun hon _ hz => ?_⟩
        · have hne : k ≠ j := by
            rintro rfl
            exact of_decide_eq_false hoff ⟨by omega, .inr ⟨h0, e2.symm⟩⟩
          rw [if_neg hne]
        · have := of_decide_eq_true hon
          have hkj : k = j := by omega
          rw [if_pos hkj, program_zero hk hz, mask_nil]
      · rw [t.other i hii]
        refine ⟨fun _ => rfl, fun hon => ?_⟩
        have := of_decide_eq_true hon
        omega
  · rename_i h0
    split
    · rename_i h1
      dsimp only
      refine ⟨fun hoff => ?_, fun _ h => absurd h h0⟩
      rcases erase_law st o.blk with ⟨e, hr⟩ | ⟨i', e1, t, _, _⟩
      · rw [e]
      · have hne : i ≠ i' := by
          rintro rfl
          exact of_decide_eq_false hoff ⟨by omega, .inl h1⟩
        rw [t.other i hne]
    · split
      · exact ⟨fun _ => rfl, fun _ h => absurd h h0⟩
      · split <;> exact ⟨fun _ => rfl, fun _ h => absurd h h0⟩
/-- The same, of all pages of a block. -/
theorem stays_pages {st : Chip} (hk : st.kinds) (o : Cl) (hn : o.next = false) (n : Int) : ((st.does o).2.pagesOf n).length = (st.pagesOf n).length ∧
    ∀ (k : Nat) (h : k < (st.pagesOf n).length) (h' : k < ((st.does o).2.pagesOf n).length), (o.on n k = false → ((st.does o).2.pagesOf n)[k] = (st.pagesOf n)[k]) ∧ (o.on n k = true → o.do_ = 0 → (st.does o).1.2 = 0 → ((st.does o).2.pagesOf n)[k] = rep 288 o.fill) := by
  obtain ⟨hbn, hpn⟩ := does_geo st o
  have hth := there_geo (st := st) (st' := (st.does o).2) hbn n
  rcases ht : st.there n with _ | _
  · rw [pagesOf_no ht, pagesOf_no (hth.trans ht)]
    exact ⟨rfl, fun k h => absurd h (Nat.not_lt_zero _)⟩
  · obtain ⟨i, rfl, hi⟩ := Chip.there_nat ht
    rw [pagesOf_yes ht, pagesOf_yes (hth.trans ht), hpn]
    refine ⟨by simp, fun k h h' => ?_⟩
    have hkp : k < st.pn := by simpa using h
    simp only [List.getElem_map, List.getElem_range]
    exact stays hk o hn i i rfl k hkp
end Go.Proofs.Ytlgjlhgdpiipbaa
