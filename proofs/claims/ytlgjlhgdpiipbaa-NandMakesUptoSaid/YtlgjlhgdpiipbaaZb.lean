/- Slices of pages; Pages. -/
import Derived.Test.YtlgjlhgdpiipbaaZa
import Derived.Great.BuildSlice
import Derived.Great.FillDense
namespace Go.Proofs.Ytlgjlhgdpiipbaa
open Go.RowKit
section
variable {α : Type}
/-- A slice of structs, k cells each, reads as this list. -/
def RdC (f : α → List Value) (k : Nat) (W : World) (v : Value) (xs : List α) : Prop :=
  ∃ a cap, v = .slice a xs.length cap ∧ xs.length ≤ cap ∧ ∀ j x, xs[j]? = some x → ∃ b o, a = some ⟨b, o, none⟩ ∧ b < W.heap.size ∧ ∀ i u, (f x)[i]? = some u → W.cell? ⟨b, o + j * k + i, none⟩ = some u
theorem RdC.nil (f : α → List Value) (k : Nat) (W : World) : RdC f k W (.slice none 0 0) [] := ⟨none, 0, rfl, Nat.le_refl _, fun j x h => by simp at h⟩
theorem RdC.below {f : α → List Value} {k : Nat} {W W' : World} {v : Value} {xs : List α} (h : RdC f k W v xs) (hb : Below W.heap.size W W') : RdC f k W' v xs := by
  obtain ⟨a, cap, h1, h2, h3⟩ := h
  refine ⟨a, cap, h1, h2, fun j x hj => ?_⟩
  obtain ⟨b, o, h4, h5, h6⟩ := h3 j x hj
  exact ⟨b, o, h4, Nat.lt_of_lt_of_le h5 hb.size, fun i u hu => (hb.cell (p := ⟨b, o + j * k + i, none⟩) h5).trans (h6 i u hu)⟩
theorem RdC.len {f : α → List Value} {k : Nat} {W : World} {v : Value} {xs : List α} (h : RdC f k W v xs) : ∃ a cap, v = .slice a xs.length cap := by
  obtain ⟨a, cap, h1, _⟩ := h; exact ⟨a, cap, h1⟩
theorem RdC.at {f : α → List Value} {k : Nat} {W : World} {v : Value} {xs : List α} (h : RdC f k W v xs) (hx : xs ≠ []) :
    ∃ b o cap, v = .slice (some ⟨b, o, none⟩) xs.length cap ∧ xs.length ≤ cap ∧ b < W.heap.size ∧ ∀ j (hj : j < xs.length) i u, (f xs[j])[i]? = some u → W.cell? ⟨b, o + j * k + i, none⟩ = some u := by
  obtain ⟨a, cap, rfl, hc, h3⟩ := h
  match xs, hx with
  | x :: xs, _ =>
    obtain ⟨b, o, rfl, hb, _⟩ := h3 0 x rfl
    refine ⟨b, o, cap, rfl, hc, hb, fun j hj => ?_⟩
    obtain ⟨b', o', e, _, h⟩ := h3 j _ (List.getElem?_eq_getElem hj)
    cases e; exact h
theorem flat_at {f : α → List Value} {k : Nat} (hk : ∀ x, (f x).length = k) : ∀ (xs : List α) (j : Nat) (x : α), xs[j]? = some x → ∀ i u, (f x)[i]? = some u → (xs.flatMap f)[j * k + i]? = some u
  | [], j, x, h => by simp at h
  | y :: xs, 0, x, h => by
    simp at h; subst h
    intro i u hu
    rw [List.flatMap_cons, Nat.zero_mul, Nat.zero_add, List.getElem?_append_left (List.getElem?_eq_some_iff.1 hu).1]
    exact hu
  | y :: xs, j + 1, x, h => by
    intro i u hu
    have ih := flat_at hk xs j x (by simpa using h) i u hu
    rw [List.flatMap_cons, show (j + 1) * k + i = j * k + i + k by rw [Nat.add_mul]; omega, List.getElem?_append_right (by rw [hk]; omega), hk, Nat.add_sub_cancel]
    exact ih
theorem RdC.of_own {f : α → List Value} {k : Nat} (hk : ∀ x, (f x).length = k) {e : TypeId} {W : World} {B : Nat} {v : Value} {xs : List α} (h : W.ownsRow B e k v xs.length (xs.flatMap f)) : RdC f k W v xs := by
  have h' := h
  obtain ⟨_, ⟨rfl, h0⟩ | ⟨g, cap, cur, rfl, hg, hh, hc, hm, hs, ht⟩⟩ := h
  · refine ⟨none, 0, by rw [h0], by omega, fun j x hj => ?_⟩
    have : xs = [] := List.eq_nil_of_length_eq_zero h0
    subst this; simp at hj
  · refine ⟨_, cap, rfl, hc, fun j x hj => ⟨g, 0, rfl, (h'.lt g rfl).2, fun i u hu => ?_⟩⟩
    have := h'.cells (g := g) rfl (j * k + i) u (flat_at hk xs j x hj i u hu)
    have e : (⟨g, 0, none⟩ : Addr).add (j * k + i) = ⟨g, 0 + j * k + i, none⟩ := by
      unfold Addr.add; split <;> simp_all <;> omega
    rw [← e]; exact this
theorem RdC.of_all {f : α → List Value} {k : Nat} {W : World} {v : Value} {xs : List α} (b o cap : Nat) (hv : v = .slice (some ⟨b, o, none⟩) xs.length cap) (hc : xs.length ≤ cap) (hb : b < W.heap.size)
    (h : ∀ j x, xs[j]? = some x → ∀ i u, (f x)[i]? = some u → W.cell? ⟨b, o + j * k + i, none⟩ = some u) : RdC f k W v xs :=
  ⟨_, cap, hv, hc, fun j x hj => ⟨b, o, rfl, hb, h j x hj⟩⟩
end
/-- A page's cells (a list of any length is cut or filled). -/
def pgL (l : List UInt8) : List Value := ((l ++ rep 288 0).take 288).map byteV
theorem pgL_len (l : List UInt8) : (pgL l).length = 288 := by unfold pgL; rw [List.length_map, List.length_take, List.length_append, rep_len]; omega
theorem pgL_eq {l : List UInt8} (h : l.length = 288) : pgL l = l.map byteV := by unfold pgL; rw [← h, List.take_left]
/-- A slice literal of one page. -/
theorem wpList_build_pg {w : World} {ops : Array Oper} {rest : List Oper} {o : Oper} {a : Act} {Q : Exit → Act → World → Prop} (hg : o.guard = none) (x : Operand) (ho : o.op = .buildSlice 56 1 #[(0, x)]) (l : List UInt8) (hx : a.eval x = .agg (cellsB l)) (hl : l.length = 288)
    (h : wpList Try.prog ops Q rest (a.put o.dst (.slice (some ⟨w.heap.size, 0, none⟩) 1 1)) (w.alloc (.cells (cellsB l) 48))) : wpList Try.prog ops Q (o :: rest) a w := by
  obtain ⟨i0, hi0, hz0, hz1, hz2⟩ := info_parts info48
  refine wpList_buildSlice hg 56 48 1 _ ho (cellsB l) i0 (.agg (cellsB (rep 288 0))) Try.underlying56 hi0 hz0 (by rw [hz1]; decide) (by rw [hz1]; decide) ?_ h
  rw [hz1]
  have e := Great.fill_whole (s := 288) (by decide) [.agg (cellsB l)] ((Array.range (1 * 288)).map ((Value.agg (cellsB (rep 288 0))).cells[· % (Value.agg (cellsB (rep 288 0))).cells.size]!)) (fun v hv => by
    rw [List.mem_singleton.1 hv]; show (cellsB l).size = 288; rw [cellsB_size, hl]) (by simp)
  have e2 : (#[(0, x)].map fun (i, x) => (i, a.eval x)).toList = [(0, .agg (cellsB l))] := by simp [hx]
  rw [e2]
  refine e.trans ?_
  simp [Value.cells]
/-- A block's pages, in their order. -/
def Chip.pagesOf (st : Chip) (n : Int) : List (List UInt8) := if st.there n then (List.range st.pn).map (st.blk n.toNat).pages else []
theorem pagesOf_no {st : Chip} {n : Int} (h : st.there n = false) : st.pagesOf n = [] := by unfold Chip.pagesOf; rw [h]; rfl
theorem pagesOf_yes {st : Chip} {i : Nat} (h : st.there (i : Int) = true) : st.pagesOf (i : Int) = (List.range st.pn).map (st.blk i).pages := by unfold Chip.pagesOf; rw [if_pos h]; rfl
/-- An iterator over pages that lie in memory. -/
def SeqPg (ps : List (List UInt8)) (w : World) (e : Ending) (w' : World) : Prop :=
  ∃ Bl la lc, e = .returned (.func (.func 55) #[] #[.pointer (some ⟨Bl, 0, none⟩)]) ∧ w.heap.size ≤ Bl ∧ Box w' Bl 56 #[.slice la ps.length lc] ∧ RdC pgL 288 w' (.slice la ps.length lc) ps ∧ (∀ b o, la = some ⟨b, o, none⟩ → w.heap.size ≤ b ∧ b < w'.heap.size) ∧ Below w.heap.size w w'
set_option maxRecDepth 100000 in
theorem sAll_any (la : Option Addr) (n lc : Nat) (w : World) : Calls Try.prog 39 #[.slice la n lc] w (fun e w' => e = .returned (.func (.func 55) #[] #[.pointer (some ⟨w.heap.size, 0, none⟩)]) ∧ w' = w.alloc (.cells #[.slice la n lc] 56)) := by
  go_enter Try.func39, Try.ntmps39
  go_wp2_with fail
  go_ret
  exact ⟨rfl, rfl⟩
theorem own_addr {W : World} {B : Nat} {e : TypeId} {size n m lc : Nat} {la : Option Addr} {xs : List Value} (h : W.ownsRow B e size (.slice la m lc) n xs) (b o : Nat) (hb : la = some ⟨b, o, none⟩) : B ≤ b ∧ b < W.heap.size :=
  h.lt b (by rw [hb]; rfl)
theorem seqPg_of {w w1 : World} {ps : List (List UInt8)} {la : Option Addr} {lc : Nat} (ho : w1.ownsRow w.heap.size 48 288 (.slice la ps.length lc) ps.length (ps.flatMap pgL)) (hb : Below w.heap.size w w1) :
    SeqPg ps w (.returned (.func (.func 55) #[] #[.pointer (some ⟨w1.heap.size, 0, none⟩)])) (w1.alloc (.cells #[.slice la ps.length lc] 56)) := by
  have hal := (Below.refl w1.heap.size w1).alloc (Nat.le_refl _) (.cells #[.slice la ps.length lc] 56)
  exact ⟨w1.heap.size, la, lc, rfl, hb.size, Box.new _ _ _, (RdC.of_own pgL_len ho).below hal, fun b o e => by have := own_addr ho b o e; rw [World.size_alloc]; omega, hb.alloc hb.size _⟩
/-- A page more. -/
theorem pg_push {w w1 : World} {ra : Option Addr} {rc k : Nat} {f : Nat → List UInt8} (ho : w1.ownsRow w.heap.size 48 288 (.slice ra k rc) k (((List.range k).map f).flatMap pgL)) (hb : Below w.heap.size w w1) (hk : k < 1000) (hl : (f k).length = 288) :
    ∃ va vn vc w2, (Builtin.append_ #[56, 56] 56 #[.slice ra k rc, .slice (some ⟨w1.heap.size, 0, none⟩) 1 1]).run Try.prog (w1.alloc (.cells (cellsB (f k)) 48)) = .ok (.slice va vn vc) w2 ∧
      w2.ownsRow w.heap.size 48 288 (.slice va (k + 1) vc) (k + 1) (((List.range (k + 1)).map f).flatMap pgL) ∧ vn = k + 1 ∧ Below w.heap.size w w2 := by
  obtain ⟨i0, hi0, hz0, hz1, hz2⟩ := info_parts info48
  have hal := (Below.refl w1.heap.size w1).alloc (Nat.le_refl _) (.cells (cellsB (f k)) 48)
  have ho1 := own_below ho hal
  have bx := Box.new w1 48 (cellsB (f k))
  obtain ⟨v', w2, hr, h2, h3, _⟩ := run_append_own_at (P := Try.prog) (w1.alloc (.cells (cellsB (f k)) 48)) w.heap.size 56 56 48 i0 (.agg (cellsB (rep 288 0))) 288 288 Try.underlying56 hi0 hz0 hz1 hz2 (by show (cellsB (rep 288 0)).size = 288; rw [cellsB_size, rep_len]) (by decide)
    (.slice ra k rc) k _ ho1 ⟨w1.heap.size, 0, none⟩ 1 1 ((f k).map byteV) (by rw [List.length_map, hl]) (fun j u hu => by
      rw [show (⟨w1.heap.size, 0, none⟩ : Addr).add j = ⟨w1.heap.size, j, none⟩ from by unfold Addr.add; split <;> simp_all]
      refine bx.get j u ?_
      unfold cellsB
      simpa using hu) (fun u hu => by obtain ⟨y, _, rfl⟩ := List.mem_map.1 hu; rfl) (by unfold maxLen; omega) (by omega) (by rw [World.size_alloc]; have := hb.size; omega)
  have e : ((List.range k).map f).flatMap pgL ++ (f k).map byteV = ((List.range (k + 1)).map f).flatMap pgL := by
    rw [List.range_succ, List.map_append, List.flatMap_append]
    simp [pgL_eq hl]
  rw [e] at h2
  obtain ⟨_, ⟨_, h0⟩ | ⟨g, cap, cur, rfl, _⟩⟩ := id h2
  · omega
  · exact ⟨_, _, _, w2, hr, h2, rfl, (hb.alloc hb.size _).grown h3 (by rw [World.size_alloc]; have := hb.size; omega) (fun b hb' => (ho.lt b hb').1)⟩
set_option maxRecDepth 100000 in
set_option maxHeartbeats 4000000 in
theorem pages22_any {Fm Fr : Nat → Prop} {c : Nat} {st : Chip} {L : Lay} {w : World} (h : ChipR w Fm Fr c st L) (n : Int) : Calls Try.prog 22 #[.pointer (some ⟨c, 0, none⟩), .int .i64 n] w (SeqPg (st.pagesOf n) w) := by
  have hm := Lib.hid (made_any h)
  have ht := there_any h n
  have c2 := h.c2
  have hall := fun (la : Option Addr) (m lc : Nat) (W : World) => sAll_any la m lc W
  replace hall := Lib.hid hall
  rcases hth : st.there n with _ | _
  · rw [hth] at ht
    replace ht := Lib.hid ht
    rw [pagesOf_no hth]
    have hfin := Lib.hid (seqPg_of (w := w) (w1 := w) (ps := []) (la := none) (lc := 0) (World.ownsRow_nil _ _ _ _) (Below.refl _ _))
    clear h hth
    go_enter Try.func22, Try.ntmps22
    go_wp2_with (first | (go_at_call 36; (with_reducible refine hm.out.mono ?_); rintro e w' ⟨rfl, hw⟩; obtain rfl := hw.symm) | (go_at_call 31; (with_reducible refine ht.out.mono ?_); rintro e w' ⟨rfl, hw⟩; obtain rfl := hw.symm) | (go_at_call 39; refine (hall.out _ _ _ _).mono ?_; rintro e w' ⟨rfl, rfl⟩))
    go_ret
    exact hfin.out
  · obtain ⟨i, rfl, hi⟩ := Chip.there_nat hth
    rw [hth] at ht
    replace ht := Lib.hid ht
    rw [pagesOf_yes hth]
    have r0 := h.r hi
    have b0 := h.b0 hi
    have hI : (i : Int) < (st.bn : Int) := by omega
    have hI0 : (0 : Int) ≤ (i : Int) := by omega
    have hbnd := h.bnd
    replace h := Lib.hid h
    clear hth
    go_enter Try.func22, Try.ntmps22
    go_wp2_with (first | (go_at_call 36; (with_reducible refine hm.out.mono ?_); rintro e w' ⟨rfl, hw⟩; obtain rfl := hw.symm) | (go_at_call 31; (with_reducible refine ht.out.mono ?_); rintro e w' ⟨rfl, hw⟩; obtain rfl := hw.symm))
    clear hm ht c2 r0 b0
    go_loopw [5, 26] (fun out x wr => ∃ (k : Nat) (ra : Option Addr) (rc : Nat), k ≤ st.pn ∧ x = .int .i64 k ∧ out = .slice ra k rc ∧ wr.ownsRow w.heap.size 48 288 (.slice ra k rc) k (((List.range k).map (st.blk i).pages).flatMap pgL) ∧ Below w.heap.size w wr) (fun _ x _ => st.pn - (intOf x).toNat)
    case atStart => exact ⟨0, none, 0, by omega, rfl, rfl, World.ownsRow_nil _ _ _ _, Below.refl _ _⟩
    case round =>
      obtain ⟨k, ra, rc, hk, rfl, rfl, ho, hb⟩ := hrel
      by_cases hlt : k < st.pn
      · have hC := h.out.below hb
        have p0 := hC.pp hi hlt
        have hq := hC.byt i hi k hlt
        have hl := h.out.len i hi k hlt
        have hp := Lib.hid (bpage_any _ _ _ _ hq hl)
        have hJ0 : (0 : Int) ≤ (k : Int) := by omega
        have hJ1 : (k : Int) < (st.pn : Int) := by omega
        have hpush := Lib.hid (fun w4 (h4 : Below wr.heap.size wr w4) => pg_push (w := w) (f := (st.blk i).pages) (own_below ho h4) (hb.trans (h4.mono hb.size)) (show k < 1000 by omega) hl)
        obtain ⟨l, hll⟩ : ∃ l, (st.blk i).pages k = l := ⟨_, rfl⟩
        have hl288 : l.length = 288 := by rw [← hll]; exact hl
        rw [hll] at hp hpush
        clear hC hq hl hll ho hb
        go_wp2_with fail
        refine hp.out.mono ?_
        rintro e w4 ⟨rfl, h4⟩
        obtain ⟨va, vn, vc, w5, hrun, ho5, rfl, hb5⟩ := hpush.out w4 h4
        replace hrun := Lib.hid hrun
        replace ho5 := Lib.hid ho5
        replace hb5 := Lib.hid hb5
        clear hp hpush h4
        unfold pgV
        go_wp2_with (first | (refine wpList_build_pg rfl _ rfl l rfl hl288 ?_) | (at_builtin; refine wpList_append_run rfl _ _ 56 rfl _ _ rfl rfl _ _ hrun.out ?_))
        go_roundw
        case rel => exact ⟨k + 1, _, _, by omega, by go_num, rfl, ho5.out, hb5.out⟩
        case measure => simp [intOf]; omega
      · obtain rfl : k = st.pn := by omega
        have hln : ((List.range st.pn).map (st.blk i).pages).length = st.pn := by simp
        have hfin := Lib.hid (seqPg_of (w := w) (w1 := wr) (ps := (List.range st.pn).map (st.blk i).pages) (la := ra) (lc := rc) (by rw [hln]; exact ho) hb)
        rw [hln] at hfin
        clear ho hb
        go_wp2_with (go_at_call 39; refine (hall.out _ _ _ _).mono ?_; rintro e w' ⟨rfl, rfl⟩)
        go_ret
        exact hfin.out
end Go.Proofs.Ytlgjlhgdpiipbaa
