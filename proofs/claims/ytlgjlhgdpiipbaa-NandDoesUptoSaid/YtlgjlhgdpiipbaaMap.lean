import Derived.Test.YtlgjlhgdpiipbaaMam
import Derived.Test.YtlgjlhgdpiipbaaMao
import Derived.Test.YtlgjlhgdpiipbaaMai
/- The reference's chip in memory; its Look. -/
namespace Go.Proofs.Ytlgjlhgdpiipbaa
open Go.RowKit
/-- Where the parts of the reference's chip lie: a row of blocks, four cells each; rows of pages. -/
structure RLay where
  ba : Nat
  bcap : Nat
  barr : Array Value
  ev : Value
  p : Nat → Nat
  pcap : Nat → Nat
  parr : Nat → Array Value
def refA (L : RLay) (st : Chip) : Array Value := #[.int .i64 st.bn, .int .i64 st.pn, .slice (some ⟨L.ba, 0, none⟩) st.bn L.bcap, L.ev, .int .i64 st.ops, .bool (!st.off)]
def rblkL (L : RLay) (st : Chip) (i : Nat) : List Value := [.slice (some ⟨L.p i, 0, none⟩) st.pn (L.pcap i), .int .i64 (st.blk i).look.wear, .int .i64 (st.blk i).look.next, .bool (st.blk i).look.bad]
/-- The reference's chip in memory: Fm are the blocks that its calls may change, Fr those that stay. -/
structure RefR (W : World) (Fm Fr : Nat → Prop) (c : Nat) (st : Chip) (L : RLay) : Prop where
  chip : Box W c 92 (refA L st)
  row : Box W L.ba 94 L.barr
  rowAt : ∀ i, i < st.bn → ∀ x u, (rblkL L st i)[x]? = some u → L.barr[i * 4 + x]? = some u
  prow : ∀ i, i < st.bn → Box W (L.p i) 48 (L.parr i)
  prowAt : ∀ i, i < st.bn → ∀ j, j < st.pn → ∀ x u, (pgL ((st.blk i).pages j))[x]? = some u → (L.parr i)[j * 288 + x]? = some u
  len : ∀ i, i < st.bn → ∀ j, j < st.pn → ((st.blk i).pages j).length = 288
  pinj : ∀ i, i < st.bn → ∀ i', i' < st.bn → L.p i = L.p i' → i = i'
  evs : EvS W Fr L.ev st.evs
  cap : st.bn ≤ L.bcap ∧ ∀ i, i < st.bn → st.pn ≤ L.pcap i
  fc : Fm c
  fb : Fm L.ba
  fp : ∀ i, i < st.bn → Fm (L.p i)
  disj : ∀ b, Fm b → ¬ Fr b
  ltm : ∀ b, Fm b → b < W.heap.size
  ltr : ∀ b, Fr b → b < W.heap.size
  bnd : 0 < st.bn ∧ st.bn ≤ 256 ∧ 0 < st.pn ∧ st.pn ≤ 32
  opsb : 0 ≤ st.ops ∧ st.ops ≤ 1000000
section
variable {W W' : World} {Fm Fr : Nat → Prop} {c : Nat} {st : Chip} {L : RLay}
theorem RefR.same (h : RefR W Fm Fr c st L) (hs : Same (fun b => Fm b ∨ Fr b) W W') : RefR W' Fm Fr c st L where
  chip := h.chip.same hs (.inl h.fc)
  row := h.row.same hs (.inl h.fb)
  rowAt := h.rowAt
  prow i hi := (h.prow i hi).same hs (.inl (h.fp i hi))
  prowAt := h.prowAt
  len := h.len
  pinj := h.pinj
  evs := h.evs.same ⟨fun b hb => hs.1 b (.inr hb), hs.2⟩
  cap := h.cap
  fc := h.fc
  fb := h.fb
  fp := h.fp
  disj := h.disj
  ltm b hb := Nat.lt_of_lt_of_le (h.ltm b hb) hs.2
  ltr b hb := Nat.lt_of_lt_of_le (h.ltr b hb) hs.2
  bnd := h.bnd
  opsb := h.opsb
theorem RefR.below (h : RefR W Fm Fr c st L) (hb : Below W.heap.size W W') : RefR W' Fm Fr c st L :=
  h.same ⟨fun b hF => hb.block b (by rcases hF with hF | hF; exact h.ltm b hF; exact h.ltr b hF), hb.size⟩
theorem RefR.c0 (h : RefR W Fm Fr c st L) : W.cell? ⟨c, 0, none⟩ = some (.int .i64 st.bn) := h.chip.get 0 _ rfl
theorem RefR.c1 (h : RefR W Fm Fr c st L) : W.cell? ⟨c, 1, none⟩ = some (.int .i64 st.pn) := h.chip.get 1 _ rfl
theorem RefR.c2 (h : RefR W Fm Fr c st L) : W.cell? ⟨c, 2, none⟩ = some (.slice (some ⟨L.ba, 0, none⟩) st.bn L.bcap) := h.chip.get 2 _ rfl
theorem RefR.c3 (h : RefR W Fm Fr c st L) : W.cell? ⟨c, 3, none⟩ = some L.ev := h.chip.get 3 _ rfl
theorem RefR.c4 (h : RefR W Fm Fr c st L) : W.cell? ⟨c, 4, none⟩ = some (.int .i64 st.ops) := h.chip.get 4 _ rfl
theorem RefR.c5 (h : RefR W Fm Fr c st L) : W.cell? ⟨c, 5, none⟩ = some (.bool (!st.off)) := h.chip.get 5 _ rfl
theorem RefR.bcell (h : RefR W Fm Fr c st L) {i : Nat} (hi : i < st.bn) (x : Nat) (u : Value) (hu : (rblkL L st i)[x]? = some u) : W.cell? ⟨L.ba, i * 4 + x, none⟩ = some u := h.row.get _ _ (h.rowAt i hi x u hu)
theorem RefR.loadPg (h : RefR W Fm Fr c st L) {i : Nat} (hi : i < st.bn) {j : Nat} (hj : j < st.pn) : (loadVar 48 ⟨L.p i, j * 288, none⟩).run Try.prog W = .ok (pgV ((st.blk i).pages j)) W :=
  loadPg_at W (L.p i) (j * 288) _ (h.len i hi j hj) (fun x u hu => (h.prow i hi).get _ _ (h.prowAt i hi j hj x u (by rw [pgL_eq (h.len i hi j hj)]; exact hu)))
end
set_option maxRecDepth 100000 in
set_option maxHeartbeats 2000000 in
theorem rblock_any {Fm Fr : Nat → Prop} {c : Nat} {st : Chip} {L : RLay} {w : World} (h : RefR w Fm Fr c st L) (n : Int) : Calls Try.prog 54 #[.pointer (some ⟨c, 0, none⟩), .int .i64 n] w (ValQ (.bool (st.there n)) w) := by
  have h0 := h.c0
  clear h
  have hy := Lib.hid (@Chip.there_yes st n)
  have hn := Lib.hid (@Chip.there_no st n)
  obtain ⟨t, ht⟩ : ∃ t, st.there n = t := ⟨_, rfl⟩
  rw [ht] at hy hn ⊢
  clear ht
  by_cases h0' : 0 ≤ n
  · by_cases h1 : n < st.bn
    · obtain rfl := hy.out h0' h1
      go_enter Try.func54, Try.ntmps54
      go_wp2_with fail
      go_ret
      exact ⟨rfl, rfl⟩
    · obtain rfl := hn.out (fun h => h1 h.2)
      go_enter Try.func54, Try.ntmps54
      go_wp2_with fail
      go_ret
      exact ⟨rfl, rfl⟩
  · obtain rfl := hn.out (fun h => h0' h.1)
    go_enter Try.func54, Try.ntmps54
    go_wp2_with fail
    go_ret
    exact ⟨rfl, rfl⟩
set_option maxRecDepth 100000 in
theorem res37 {W : World} {b : Nat} {l : Look} (h : Box W b 42 (lookA l)) {tmps : Array Value} {n : Int} (h4 : tmps.getD 4 undef = .pointer (some ⟨b, 0, none⟩)) (h5 : tmps.getD 5 undef = .int .i64 n) :
    (results Try.f37 tmps).run Try.prog W = .ok (.tuple #[lookV l, .int .i64 n]) W := by
  have d0 := h.get 0 _ rfl
  have d1 := h.get 1 _ rfl
  have d2 := h.get 2 _ rfl
  simp at h4 h5
  simp [results, Try.results37, go_sem, h4, h5, d0, d1, d2, lookV, lookA]
set_option maxRecDepth 100000 in
set_option maxHeartbeats 2000000 in
theorem rlook_any {Fm Fr : Nat → Prop} {c : Nat} {st : Chip} {L : RLay} {w : World} (h : RefR w Fm Fr c st L) (n : Int) : Calls Try.prog 37 #[.pointer (some ⟨c, 0, none⟩), .int .i64 n] w fun e w' => e = .returned (.tuple #[lookV (st.lookAt n).1, .int .i64 (st.lookAt n).2]) ∧ Below w.heap.size w w' := by
  have hB := (Below.refl w.heap.size w).alloc (Nat.le_refl _) (.cells #[.int .i64 0, .int .i64 0, .bool false] 42)
  have h' := h.below ((Below.refl w.heap.size w).alloc (Nat.le_refl _) (.cells #[.int .i64 0, .int .i64 0, .bool false] 42))
  have ht := Lib.hid (rblock_any h' n)
  have bx := Box.new w 42 #[.int .i64 0, .int .i64 0, .bool false]
  have h2 := h'.c2
  obtain ⟨W0, hW0⟩ : ∃ W0, w.alloc (.cells #[.int .i64 0, .int .i64 0, .bool false] 42) = W0 := ⟨_, rfl⟩
  rw [hW0] at hB h2 ht bx h'
  have d0 := bx.get 0 _ rfl
  have d1 := bx.get 1 _ rfl
  have d2 := bx.get 2 _ rfl
  have f0 := bx.frozen 0
  have f1 := bx.frozen 1
  have f2 := bx.frozen 2
  have hfin := fun (l : Look) => ((bx.set 0 (.int .i64 l.wear)).set 1 (.int .i64 l.next)).set 2 (.bool l.bad)
  have hBf := fun (l : Look) => ((hB.setCell (p := ⟨w.heap.size, 0, none⟩) (Nat.le_refl _) (.int .i64 l.wear)).setCell (p := ⟨w.heap.size, 1, none⟩) (Nat.le_refl _) (.int .i64 l.next)).setCell (p := ⟨w.heap.size, 2, none⟩) (Nat.le_refl _) (.bool l.bad)
  rcases hth : st.there n with _ | _
  · have hl : st.lookAt n = (zeroLook, 22) := by unfold Chip.lookAt; rw [hth]; rfl
    rw [hl]
    rw [hth] at ht
    have bf := Lib.hid (hfin zeroLook)
    have hb := Lib.hid (hBf zeroLook)
    clear h h' hl hth hfin hBf bx hB
    go_enter Try.func37, Try.ntmps37
    go_wp2_with (go_at_call 54; (with_reducible refine ht.out.mono ?_); rintro e w' ⟨rfl, hw⟩; obtain rfl := hw.symm)
    exact bodyPost_ret (res37 (l := zeroLook) bf.out rfl rfl) rfl ⟨rfl, hb.out⟩
  · obtain ⟨i, rfl, hi⟩ := Chip.there_nat hth
    have hl : st.lookAt (i : Int) = ((st.blk i).look, 0) := by unfold Chip.lookAt; rw [hth, if_pos rfl]; rfl
    rw [hl]
    rw [hth] at ht
    have b1 := h'.bcell hi 1 _ rfl
    have b2 := h'.bcell hi 2 _ rfl
    have b3 := h'.bcell hi 3 _ rfl
    have hI : (i : Int) < (st.bn : Int) := by omega
    have hI0 : (0 : Int) ≤ (i : Int) := by omega
    obtain ⟨l, hlk⟩ : ∃ l, (st.blk i).look = l := ⟨_, rfl⟩
    rw [hlk] at b1 b2 b3 ⊢
    have bf := Lib.hid (hfin l)
    have hb := Lib.hid (hBf l)
    clear h h' hl hth hfin hBf bx hB hlk
    go_enter Try.func37, Try.ntmps37
    go_wp2_with (go_at_call 54; (with_reducible refine ht.out.mono ?_); rintro e w' ⟨rfl, hw⟩; obtain rfl := hw.symm)
    exact bodyPost_ret (res37 (l := l) bf.out rfl rfl) rfl ⟨rfl, hb.out⟩
end Go.Proofs.Ytlgjlhgdpiipbaa
/- A slice literal of one page, as a step of a region that draws its order. -/
namespace Go.Proofs.Ytlgjlhgdpiipbaa
open Go.RowKit
set_option maxRecDepth 100000 in
theorem step_build_pg {ops : Array Oper} {o : Oper} {a : Act} {w : World} {K : Act → World → Prop} {Q : Exit → Act → World → Prop} {E : Prop} (hgd : o.guard = none) (x : Operand) (ho : o.op = .buildSlice 56 1 #[(0, x)]) (l : List UInt8) (hx : a.eval x = .agg (cellsB l)) (hl : l.length = 288)
    (hK : K (a.put o.dst (.slice (some ⟨w.heap.size, 0, none⟩) 1 1)) (w.alloc (.cells (cellsB l) 48))) : if Region.wanted o (yielded ops a.tmps) = true then Oper.wp Try.prog o a w K Q else E := by
  have hw : Region.wanted o (yielded ops a.tmps) = true := by simp [Region.wanted, hgd]
  rw [if_pos hw]
  obtain ⟨i0, hi0, hz0, hz1, hz2⟩ := info_parts info48
  refine Go.wp_buildSlice 56 48 1 _ ho (cellsB l) i0 (.agg (cellsB (rep 288 0))) Try.underlying56 hi0 hz0 (by rw [hz1]; decide) (by rw [hz1]; decide) ?_ hK
  rw [hz1]
  have e2 : (#[(0, x)].map fun (i, x) => (i, a.eval x)).toList = [(0, .agg (cellsB l))] := by simp [hx]
  rw [e2]
  refine (Great.fill_whole (s := 288) (by decide) [.agg (cellsB l)] _ (fun v hv => by
    rw [List.mem_singleton.1 hv]; show (cellsB l).size = 288; rw [cellsB_size, hl]) (by simp)).trans ?_
  simp [Value.cells]
end Go.Proofs.Ytlgjlhgdpiipbaa
/- The reference's New: what it has of a chip that is under way. -/
namespace Go.Proofs.Ytlgjlhgdpiipbaa
open Go.RowKit
theorem info94 : (Try.prog.info? 94).map (fun i => (i.zero, i.size, i.bytes)) = some (some (.agg #[.slice none 0 0, .int .i64 0, .int .i64 0, .bool false]), 4, 48) := by kernel_rfl
/-- So many erased pages. -/
def blankL (j : Nat) : List Value := ((List.range j).map fun _ => rep 288 255).flatMap pgL
theorem blankL_succ (j : Nat) : blankL (j + 1) = blankL j ++ pgL (rep 288 255) := by unfold blankL; rw [List.range_succ, List.map_append, List.flatMap_append]; simp
theorem blank_push {B : Nat} {W : World} {pa : Option Addr} {pc j : Nat} (ho : W.ownsRow B 48 288 (.slice pa j pc) j (blankL j)) (hB : B ≤ W.heap.size) (hj : j < 1000) (s : Nat) (hs : Box W s 48 (cellsB (rep 288 255))) :
    ∃ va vn vc w6, (Builtin.append_ #[56, 56] 56 #[.slice pa j pc, .slice (some ⟨s, 0, none⟩) 1 1]).run Try.prog W = .ok (.slice va vn vc) w6 ∧ vn = j + 1 ∧ w6.ownsRow B 48 288 (.slice va (j + 1) vc) (j + 1) (blankL (j + 1)) ∧ W.grownBy w6 (Value.slice pa j pc).ownBlock := by
  obtain ⟨i0, hi0, hz0, hz1, hz2⟩ := info_parts info48
  obtain ⟨v', w2, hr, h2, h3, _⟩ := run_append_own_at (P := Try.prog) W B 56 56 48 i0 (.agg (cellsB (rep 288 0))) 288 288 Try.underlying56 hi0 hz0 hz1 hz2 (by show (cellsB (rep 288 0)).size = 288; rw [cellsB_size, rep_len]) (by decide)
    (.slice pa j pc) j _ ho ⟨s, 0, none⟩ 1 1 (pgL (rep 288 255)) (by rw [pgL_len]) (fun x u hu => by
      rw [show (⟨s, 0, none⟩ : Addr).add x = ⟨s, x, none⟩ from by unfold Addr.add; split <;> simp_all]
      refine hs.get x u ?_
      rw [pgL_eq (rep_len _ _)] at hu
      unfold cellsB
      simpa using hu) (fun u hu => by rw [pgL_eq (rep_len _ _)] at hu; obtain ⟨y, _, rfl⟩ := List.mem_map.1 hu; rfl) (by unfold maxLen; omega) (by omega) hB
  rw [← blankL_succ] at h2
  obtain ⟨_, ⟨_, h0⟩ | ⟨g, cap, cur, rfl, _⟩⟩ := id h2
  · omega
  · exact ⟨_, _, _, w2, hr, rfl, h2, h3⟩
/-- A block's cells in the row. -/
def rnewL (p pc : Nat → Nat) (pn i : Nat) : List Value := (List.range i).flatMap fun y => [.slice (some ⟨p y, 0, none⟩) pn (pc y), .int .i64 0, .int .i64 0, .bool false]
theorem rnewL_succ (p pc : Nat → Nat) (pn i : Nat) : rnewL p pc pn (i + 1) = rnewL p pc pn i ++ [.slice (some ⟨p i, 0, none⟩) pn (pc i), .int .i64 0, .int .i64 0, .bool false] := by unfold rnewL; rw [List.range_succ, List.flatMap_append]; simp
theorem rnewL_congr {p q pc qc : Nat → Nat} {pn : Nat} : ∀ {i : Nat}, (∀ y, y < i → p y = q y ∧ pc y = qc y) → rnewL p pc pn i = rnewL q qc pn i
  | 0, _ => rfl
  | i + 1, h => by rw [rnewL_succ, rnewL_succ, rnewL_congr (i := i) (fun y hy => h y (by omega)), (h i (by omega)).1, (h i (by omega)).2]
theorem rnewL_len (p pc : Nat → Nat) (pn : Nat) : ∀ i, (rnewL p pc pn i).length = i * 4
  | 0 => rfl
  | i + 1 => by rw [rnewL_succ, List.length_append, rnewL_len p pc pn i]; simp; omega
theorem rnewL_at (p pc : Nat → Nat) (pn : Nat) : ∀ (i y : Nat), y < i → ∀ x u, ([.slice (some ⟨p y, 0, none⟩) pn (pc y), .int .i64 0, .int .i64 0, .bool false] : List Value)[x]? = some u → (rnewL p pc pn i)[y * 4 + x]? = some u
  | i + 1, y, hy, x, u, hu => by
    have hx := (List.getElem?_eq_some_iff.1 hu).1
    simp at hx
    have hl := rnewL_len p pc pn i
    rw [rnewL_succ]
    by_cases e : y = i
    · subst e
      rw [List.getElem?_append_right (by omega), hl, show y * 4 + x - y * 4 = x by omega]
      exact hu
    · rw [List.getElem?_append_left (by omega)]
      exact rnewL_at p pc pn i y (by omega) x u hu
/-- The chip under way. -/
structure RNew (w W : World) (c bn pn i : Nat) (row : Value) (p pc : Nat → Nat) : Prop where
  chip : Box W c 92 #[.int .i64 bn, .int .i64 pn, row, .slice none 0 0, .int .i64 0, .bool true]
  own : W.ownsRow w.heap.size 94 4 row i (rnewL p pc pn i)
  pages : ∀ y, y < i → W.ownsRow w.heap.size 48 288 (.slice (some ⟨p y, 0, none⟩) pn (pc y)) pn (blankL pn)
  inj : ∀ y, y < i → ∀ y', y' < i → p y = p y' → y = y'
  gec : w.heap.size ≤ c
  bel : Below w.heap.size w W
theorem RNew.below {w W W' : World} {c bn pn i : Nat} {row : Value} {p pc : Nat → Nat} (h : RNew w W c bn pn i row p pc) (hb : Below W.heap.size W W') : RNew w W' c bn pn i row p pc :=
  ⟨h.chip.below hb, own_below h.own hb, fun y hy => own_below (h.pages y hy) hb, h.inj, h.gec, h.bel.trans (hb.mono h.bel.size)⟩
/-- The block under way, in its box; its pages so far. -/
structure RBlk (wr W : World) (kb j : Nat) (pa : Option Addr) (pc : Nat) : Prop where
  box : Box W kb 94 #[.slice pa j pc, .int .i64 0, .int .i64 0, .bool false]
  own : W.ownsRow wr.heap.size 48 288 (.slice pa j pc) j (blankL j)
  ge : wr.heap.size ≤ kb
  bel : Below wr.heap.size wr W
theorem own_ne {W : World} {B : Nat} {e : TypeId} {sz n : Nat} {v : Value} {xs : List Value} (h : W.ownsRow B e sz v n xs) {b : Nat} {t : TypeId} {vs : Array Value} (hb : Box W b t vs) (hne : t ≠ e) : v.ownBlock ≠ some b := by
  intro heq
  obtain ⟨_, ⟨rfl, _⟩ | ⟨g, cap, cur, rfl, _, hh, _⟩⟩ := h
  · cases heq
  · have : g = b := by simpa [Value.ownBlock] using heq
    subst this
    have hb : W.heap[g]? = some (.cells vs t (0, 0)) := hb
    rw [hh] at hb
    cases hb
    exact hne rfl
theorem own_setc {W : World} {B : Nat} {e : TypeId} {sz n : Nat} {v : Value} {xs : List Value} (h : W.ownsRow B e sz v n xs) {b : Nat} {t : TypeId} {vs : Array Value} (hb : Box W b t vs) (hne : t ≠ e) (j : Nat) (u : Value) : (W.setCell ⟨b, j, none⟩ u).ownsRow B e sz v n xs := by
  refine h.kept (grown_set1 W b j u) ?_
  have hn := own_ne h hb hne
  obtain ⟨_, ⟨rfl, _⟩ | ⟨g, cap, cur, rfl, _⟩⟩ := id h
  · exact .inl rfl
  · right
    intro e2
    exact hn e2
/-- What a round of the inner loop needs of Blank and of the append. -/
theorem rblk_push {wr w2 : World} {kb j : Nat} {pa : Option Addr} {pc : Nat} (h : RBlk wr w2 kb j pa pc) (hj : j < 1000) (w4 : World) (h4 : Below w2.heap.size w2 w4) :
    w4.cell? ⟨kb, 0, none⟩ = some (.slice pa j pc) ∧ (w4.alloc (.cells (cellsB (rep 288 255)) 48)).cell? ⟨kb, 0, none⟩ = some (.slice pa j pc) ∧
    ∃ va vn vc w6, (Builtin.append_ #[56, 56] 56 #[.slice pa j pc, .slice (some ⟨w4.heap.size, 0, none⟩) 1 1]).run Try.prog (w4.alloc (.cells (cellsB (rep 288 255)) 48)) = .ok (.slice va vn vc) w6 ∧ vn = j + 1 ∧ w6.cell? ⟨kb, 0, none⟩ = some (.slice pa j pc) ∧ w6.frozen? ⟨kb, 0, none⟩ = false ∧
      RBlk wr (w6.setCell ⟨kb, 0, none⟩ (.slice va (j + 1) vc)) kb (j + 1) va vc := by
  have hal : Below w4.heap.size w4 (w4.alloc (.cells (cellsB (rep 288 255)) 48)) := (Below.refl _ _).alloc (Nat.le_refl _) _
  have h5 := h4.trans (hal.mono h4.size)
  have b4 := h.box.below h4
  have b5 := h.box.below h5
  have o5 := own_below h.own h5
  have hl5 := h.bel.trans (h5.mono h.bel.size)
  obtain ⟨va, vn, vc, w6, hr, hvn, o6, hg⟩ := blank_push o5 (hl5.size) hj w4.heap.size (Box.new w4 48 _)
  have b6 := b5.grown_own o5 hg (by decide)
  refine ⟨b4.get 0 _ rfl, b5.get 0 _ rfl, va, vn, vc, w6, hr, hvn, b6.get 0 _ rfl, b6.frozen 0, ?_⟩
  refine ⟨b6.set 0 _, own_setc o6 b6 (by decide) 0 _, h.ge, ?_⟩
  exact (hl5.grown hg hl5.size (fun k e => (o5.lt k e).1)).setCell (p := ⟨kb, 0, none⟩) h.ge _
/-- What a round of the outer loop needs of its append. -/
theorem rnew_push {w wr w2 : World} {c bn pn k kb : Nat} {ra pa : Option Addr} {rc pc0 : Nat} {p pc : Nat → Nat} (hS : RNew w wr c bn pn k (.slice ra k rc) p pc) (hb : RBlk wr w2 kb pn pa pc0) (hk : k < 1000) (hp : 0 < pn) {gb : Nat} {gvs : Array Value} (hgb : Box wr gb 23 gvs) :
    w2.cell? ⟨c, 2, none⟩ = some (.slice ra k rc) ∧ (w2.alloc (.cells #[.slice pa pn pc0, .int .i64 0, .int .i64 0, .bool false] 94)).cell? ⟨c, 2, none⟩ = some (.slice ra k rc) ∧
    ∃ va vn vc w6 p' pc', (Builtin.append_ #[90, 90] 90 #[.slice ra k rc, .slice (some ⟨w2.heap.size, 0, none⟩) 1 1]).run Try.prog (w2.alloc (.cells #[.slice pa pn pc0, .int .i64 0, .int .i64 0, .bool false] 94)) = .ok (.slice va vn vc) w6 ∧ vn = k + 1 ∧ w6.cell? ⟨c, 2, none⟩ = some (.slice ra k rc) ∧ w6.frozen? ⟨c, 2, none⟩ = false ∧
      Box w6 kb 94 #[.slice pa pn pc0, .int .i64 0, .int .i64 0, .bool false] ∧ Box (w6.setCell ⟨c, 2, none⟩ (.slice va (k + 1) vc)) kb 94 #[.slice pa pn pc0, .int .i64 0, .int .i64 0, .bool false] ∧
      RNew w (w6.setCell ⟨c, 2, none⟩ (.slice va (k + 1) vc)) c bn pn (k + 1) (.slice va (k + 1) vc) p' pc' ∧ Box (w6.setCell ⟨c, 2, none⟩ (.slice va (k + 1) vc)) gb 23 gvs := by
  obtain ⟨i0, hi0, hz0, hz1, hz2⟩ := info_parts info94
  have hal : Below w2.heap.size w2 (w2.alloc (.cells #[.slice pa pn pc0, .int .i64 0, .int .i64 0, .bool false] 94)) := (Below.refl _ _).alloc (Nat.le_refl _) _
  have h3 : Below wr.heap.size wr (w2.alloc (.cells #[.slice pa pn pc0, .int .i64 0, .int .i64 0, .bool false] 94)) := hb.bel.trans (hal.mono hb.bel.size)
  have hS2 := hS.below hb.bel
  have hS3 := hS.below h3
  have hg3 := hgb.below h3
  have hkb3 := hb.box.below hal
  have hpo3 := own_below hb.own hal
  have bn3 := Box.new w2 94 #[.slice pa pn pc0, .int .i64 0, .int .i64 0, .bool false]
  obtain ⟨g, hpa, hgge⟩ : ∃ g, pa = some ⟨g, 0, none⟩ ∧ wr.heap.size ≤ g := by
    obtain ⟨_, ⟨h1, h0⟩ | ⟨g, cap, cur, h1, h2, _⟩⟩ := id hpo3
    · omega
    · cases h1; exact ⟨g, rfl, h2⟩
  subst hpa
  obtain ⟨v', w6, hr, h2, h4, _⟩ := run_append_own_at (P := Try.prog) (w2.alloc (.cells #[.slice (some ⟨g, 0, none⟩) pn pc0, .int .i64 0, .int .i64 0, .bool false] 94)) w.heap.size 90 90 94 i0 (.agg #[.slice none 0 0, .int .i64 0, .int .i64 0, .bool false]) 4 48 Try.underlying90 hi0 hz0 hz1 hz2 rfl (by decide)
    (.slice ra k rc) k _ hS3.own ⟨w2.heap.size, 0, none⟩ 1 1 [.slice (some ⟨g, 0, none⟩) pn pc0, .int .i64 0, .int .i64 0, .bool false] rfl (fun x u hu => by
      rw [show (⟨w2.heap.size, 0, none⟩ : Addr).add x = ⟨w2.heap.size, x, none⟩ from by unfold Addr.add; split <;> simp_all]
      exact bn3.get x u (by simpa using hu)) (fun u hu => by simp at hu; rcases hu with rfl | rfl | rfl | rfl <;> rfl) (by unfold maxLen; omega) (by omega) hS3.bel.size
  obtain ⟨va, vc, rfl⟩ : ∃ va vc, v' = .slice va (k + 1) vc := by
    obtain ⟨_, ⟨_, h0⟩ | ⟨g, cap, cur, rfl, _⟩⟩ := id h2
    · omega
    · exact ⟨_, _, rfl⟩
  have hrow : ∀ b, (Value.slice ra k rc).ownBlock = some b → b < wr.heap.size := fun b e => (hS.own.lt b e).2
  have hc6 := hS3.chip.grown_own hS3.own h4 (by decide)
  have hkb6 := hkb3.grown h4 (fun e => by have := hrow kb e.symm; have := hb.ge; omega)
  have hgb6 := hg3.grown_own hS3.own h4 (by decide)
  have hne : kb ≠ c := fun e => by have := hS.chip.lt; have := hb.ge; omega
  have keep : ∀ {g' n' : Nat} {xs : List Value} {B : Nat} {cap : Nat}, (w2.alloc (.cells #[.slice (some ⟨g, 0, none⟩) pn pc0, .int .i64 0, .int .i64 0, .bool false] 94)).ownsRow B 48 288 (.slice (some ⟨g', 0, none⟩) n' cap) n' xs → w6.ownsRow B 48 288 (.slice (some ⟨g', 0, none⟩) n' cap) n' xs := fun ho => by
    refine ho.kept h4 (.inr ?_)
    intro e
    obtain ⟨_, ⟨h1, _⟩ | ⟨g1, cap1, cur, h1, _, hh, _⟩⟩ := ho
    · cases h1
    · cases h1
      exact own_ne hS3.own (show Box _ _ 48 cur from hh) (by decide) e.symm
  refine ⟨hS2.chip.get 2 _ rfl, hS3.chip.get 2 _ rfl, va, k + 1, vc, w6, (fun y => if y = k then g else p y), (fun y => if y = k then pc0 else pc y), hr, rfl, hc6.get 2 _ rfl, hc6.frozen 2, hkb6, hkb6.far _ _ (fun e => hne e.symm), ?_, hgb6.far _ _ (hc6.ne hgb6 (by decide))⟩
  refine ⟨hc6.set 2 _, ?_, fun y hy => ?_, fun y hy y' hy' he => ?_, hS.gec, ?_⟩
  · rw [rnewL_succ, rnewL_congr (q := p) (qc := pc) (fun y hy => by simp [show y ≠ k by omega]), if_pos rfl, if_pos rfl]
    exact own_setc h2 hc6 (by decide) 2 _
  · by_cases e : y = k
    · simp only [e, if_true]
      obtain ⟨o1, o2⟩ := own_setc (keep hpo3) hc6 (by decide) 2 (.slice va (k + 1) vc)
      refine ⟨o1, ?_⟩
      rcases o2 with ⟨h1, _⟩ | ⟨g1, cap1, cur, h1, h1', h1''⟩
      · cases h1
      · exact .inr ⟨g1, cap1, cur, h1, Nat.le_trans hS.bel.size h1', h1''⟩
    · simp only [e, if_false]
      exact own_setc (keep (hS3.pages y (by omega))) hc6 (by decide) 2 _
  · have hlt : ∀ y, y < k → p y < wr.heap.size := fun y hy => ((hS.pages y hy).lt (p y) rfl).2
    by_cases e : y = k
    · simp only [e, if_true] at he
      by_cases e' : y' = k
      · omega
      · simp only [e', if_false] at he
        have := hlt y' (by omega)
        omega
    · simp only [e, if_false] at he
      by_cases e' : y' = k
      · simp only [e', if_true] at he
        have := hlt y (by omega)
        omega
      · simp only [e', if_false] at he
        exact hS.inj y (by omega) y' (by omega) he
  · exact (hS3.bel.grown h4 hS3.bel.size (fun b e => (hS3.own.lt b e).1)).setCell (p := ⟨c, 2, none⟩) hS.gec _
end Go.Proofs.Ytlgjlhgdpiipbaa
/- The reference's chip behind New's parts. -/
namespace Go.Proofs.Ytlgjlhgdpiipbaa
open Go.RowKit
/-- All blocks are there: the chip, erased. -/
theorem RNew.done {w W : World} {c bn pn : Nat} {ra : Option Addr} {rc : Nat} {p pc : Nat → Nat} (h : RNew w W c bn pn bn (.slice ra bn rc) p pc) (hb : 0 < bn ∧ bn ≤ 256 ∧ 0 < pn ∧ pn ≤ 32) :
    ∃ (L : RLay) (Fm : Nat → Prop), L.ev = .slice none 0 0 ∧ ra = some ⟨L.ba, 0, none⟩ ∧ rc = L.bcap ∧ RefR W Fm (fun _ => False) c (freshChip bn pn [] (fun _ => false)) L ∧ ∀ b, Fm b → w.heap.size ≤ b := by
  obtain ⟨hlen, ⟨_, h0⟩ | ⟨g, cap, cur, hv, hg, hh, hc, hm, hs, ht⟩⟩ := id h.own
  · omega
  cases hv
  have hgb : Box W g 94 cur := hh
  have hpg : ∀ y, y < bn → ∃ cur, Box W (p y) 48 cur ∧ w.heap.size ≤ p y ∧ pn ≤ pc y ∧ cur.toList.take (pn * 288) = blankL pn := fun y hy => by
    obtain ⟨_, ⟨_, h0⟩ | ⟨g1, cap1, cur1, hv1, hg1, hh1, hc1, hm1, hs1, ht1⟩⟩ := h.pages y hy
    · omega
    · cases hv1
      exact ⟨cur1, hh1, hg1, hc1, ht1⟩
  have hch : ∃ q : Nat → Array Value, ∀ y, y < bn → Box W (p y) 48 (q y) ∧ w.heap.size ≤ p y ∧ pn ≤ pc y ∧ (q y).toList.take (pn * 288) = blankL pn :=
    ⟨fun y => if hy : y < bn then (hpg y hy).choose else #[], fun y hy => by simp only [hy, dite_true]; exact (hpg y hy).choose_spec⟩
  obtain ⟨q, hq⟩ := hch
  refine ⟨⟨g, rc, cur, .slice none 0 0, p, pc, q⟩, fun b => b = c ∨ b = g ∨ ∃ y, y < bn ∧ b = p y, rfl, rfl, rfl, ?_, fun b hF => ?_⟩
  · refine { chip := h.chip, row := hgb, rowAt := fun i hi x u hu => ?_, prow := fun i hi => (hq i hi).1, prowAt := fun i hi j hj x u hu => ?_, len := fun i hi j hj => rep_len 288 255, pinj := h.inj, evs := EvS.nil _ _ _ _, cap := ⟨hc, fun i hi => (hq i hi).2.2.1⟩, fc := .inl rfl, fb := .inr (.inl rfl), fp := fun i hi => .inr (.inr ⟨i, hi, rfl⟩), disj := fun b _ hr => hr, ltm := fun b hF => ?_, ltr := fun b hr => hr.elim, bnd := hb, opsb := ⟨Int.le_refl _, by show (0 : Int) ≤ 1000000; decide⟩ }
    · have hx := (List.getElem?_eq_some_iff.1 hu).1
      have hx4 : x < 4 := hx
      have hi : i < bn := hi
      have := rnewL_at p pc pn bn i hi x u hu
      rw [← ht, List.getElem?_take_of_lt (by omega)] at this
      simpa using this
    · have hx := (List.getElem?_eq_some_iff.1 hu).1
      rw [pgL_len] at hx
      have hj : j < pn := hj
      have h4 := (hq i hi).2.2.2
      have hfl := flat_at pgL_len ((List.range pn).map fun _ => rep 288 255) j (rep 288 255) (by simp [hj]) x u hu
      have : (blankL pn)[j * 288 + x]? = some u := hfl
      rw [← h4] at this
      have hlt : j * 288 + x < pn * 288 := by
        have : (j + 1) * 288 ≤ pn * 288 := Nat.mul_le_mul_right _ (by omega)
        omega
      rw [List.getElem?_take_of_lt hlt] at this
      simpa using this
    · rcases hF with rfl | rfl | ⟨y, hy, rfl⟩
      · exact h.chip.lt
      · exact hgb.lt
      · exact (hq y hy).1.lt
  · rcases hF with rfl | rfl | ⟨y, hy, rfl⟩
    · exact h.gec
    · exact hg
    · exact (hq y hy).2.1
/-- One cell of what is known of a block. -/
theorem RefR.set_look {W : World} {Fm Fr : Nat → Prop} {c : Nat} {st : Chip} {L : RLay} (h : RefR W Fm Fr c st L) (i : Nat) (hi : i < st.bn) (x : Nat) (hx : x < 4) (v : Value) (k : Look) (hk : rblkL L (st.setLook i k) i = (rblkL L st i).set x v) :
    RefR (W.setCell ⟨L.ba, i * 4 + x, none⟩ v) Fm Fr c (st.setLook i k) { L with barr := L.barr.setIfInBounds (i * 4 + x) v } := by
  have hpg : ∀ y, ((st.setLook i k).blk y).pages = (st.blk y).pages := fun y => setLook_pages st i y k
  have hsz : (W.setCell ⟨L.ba, i * 4 + x, none⟩ v).heap.size = W.heap.size := by simp [World.setCell]
  have hsame : Same Fr W (W.setCell ⟨L.ba, i * 4 + x, none⟩ v) := ⟨fun b hb => Below.heap_setCell W ⟨L.ba, i * 4 + x, none⟩ v b (fun e => by subst e; exact h.disj _ h.fb hb), by rw [hsz]; exact Nat.le_refl _⟩
  refine { chip := h.chip.far _ _ (fun e => (h.row.ne h.chip (by decide)) e), row := h.row.set _ _, rowAt := fun y hy z u hu => ?_, prow := fun y hy => (h.prow y hy).far _ _ (fun e => (h.row.ne (h.prow y hy) (by decide)) e), prowAt := fun y hy j hj z u hu => ?_, len := fun y hy j hj => by rw [hpg]; exact h.len y hy j hj, pinj := h.pinj, evs := h.evs.same hsame, cap := h.cap, fc := h.fc, fb := h.fb, fp := h.fp, disj := h.disj, ltm := fun b hb => by rw [hsz]; exact h.ltm b hb, ltr := fun b hb => by rw [hsz]; exact h.ltr b hb, bnd := h.bnd, opsb := h.opsb }
  · have hz := (List.getElem?_eq_some_iff.1 hu).1
    have hz4 : z < 4 := hz
    show (L.barr.setIfInBounds (i * 4 + x) v)[y * 4 + z]? = some u
    by_cases e : y = i
    · subst e
      have hu : (rblkL L (st.setLook y k) y)[z]? = some u := hu
      rw [hk] at hu
      by_cases e2 : z = x
      · subst e2
        rw [List.getElem?_set_self (by exact hz4)] at hu
        cases hu
        have hin := (Array.getElem?_eq_some_iff.1 (h.rowAt y hy z _ (List.getElem?_eq_getElem (show z < (rblkL L st y).length from hz4)))).1
        simp [hin]
      · rw [List.getElem?_set_ne (fun e3 => e2 e3.symm)] at hu
        rw [Array.getElem?_setIfInBounds_ne (by omega)]
        exact h.rowAt y hy z u hu
    · have he : rblkL L (st.setLook i k) y = rblkL L st y := by unfold rblkL; rw [setLook_look, if_neg e]; rfl
      have hu : (rblkL L (st.setLook i k) y)[z]? = some u := hu
      rw [he] at hu
      rw [Array.getElem?_setIfInBounds_ne (by omega)]
      exact h.rowAt y hy z u hu
  · rw [hpg] at hu
    exact h.prowAt y hy j hj z u hu
theorem RefR.upd_new {W W' : World} {Fm Fr Fr' : Nat → Prop} {c : Nat} {st : Chip} {L : RLay} (h : RefR W Fm Fr c st L) (_ : ∀ b, Fr b → Fr' b) (hdisj : ∀ b, Fm b → ¬ Fr' b) (hlt : ∀ b, Fr' b → b < W'.heap.size) (v : Value) (evs : List Ev)
    (hb : Box W' c 92 (refA { L with ev := v } { st with evs := evs })) (hg : W.grownBy W' (some c)) (hev : EvS W' Fr' v evs) : RefR W' Fm Fr' c { st with evs := evs } { L with ev := v } where
  chip := hb
  row := h.row.grown hg (by simpa using (h.row.ne h.chip (by decide)))
  rowAt := h.rowAt
  prow i hi := (h.prow i hi).grown hg (by simpa using ((h.prow i hi).ne h.chip (by decide)))
  prowAt := h.prowAt
  len := h.len
  pinj := h.pinj
  evs := hev
  cap := h.cap
  fc := h.fc
  fb := h.fb
  fp := h.fp
  disj := hdisj
  ltm b hb := Nat.lt_of_lt_of_le (h.ltm b hb) hg.size
  ltr := hlt
  bnd := h.bnd
  opsb := h.opsb
/-- A chip whose events are on their way. -/
structure EvNewR (w0 W : World) (c : Nat) (st : Chip) (L : RLay) (ps : List (Ev × Value)) (vE : Value) : Prop where
  chip : Box W c 92 (refA { L with ev := vE } st)
  own : W.ownsRow w0.heap.size 67 3 vE ps.length (evCells ps)
  masks : ∀ p, p ∈ ps → MaskS W w0.heap.size p.2 p.1.mask
  grown : w0.grownBy W (some c)
theorem EvNewR.below {w0 W W' : World} {c : Nat} {st : Chip} {L : RLay} {ps : List (Ev × Value)} {vE : Value} (h : EvNewR w0 W c st L ps vE) (hb : Below W.heap.size W W') : EvNewR w0 W' c st L ps vE where
  chip := h.chip.below hb
  own := own_below h.own hb
  masks p hp := (h.masks p hp).heap (fun g cap _ ho => hb.block g ho.lt)
  grown := ⟨hb.os.trans h.grown.os, hb.tape.trans h.grown.tape, hb.output.trans h.grown.output, Nat.le_trans h.grown.size hb.size, fun b h1 h2 => (hb.block b (Nat.lt_of_lt_of_le h1 h.grown.size)).trans (h.grown.block b h1 h2)⟩
/-- An event more. -/
theorem EvNewR.push {w0 W : World} {c : Nat} {st : Chip} {L : RLay} {ps : List (Ev × Value)} {vE : Value} (h : EvNewR w0 W c st L ps vE) (hl : ps.length < 10000000) (s : Nat) (e : Ev) (mv : Value) (hmv : MaskS W w0.heap.size mv e.mask)
    (h0 : W.cell? ⟨s, 0, none⟩ = some (.int .i64 e.at_)) (h1 : W.cell? ⟨s, 1, none⟩ = some (.int .i64 e.kind)) (h2 : W.cell? ⟨s, 2, none⟩ = some mv) (ty : TypeId) :
    ∃ v' w', (Builtin.append_ #[25, 25] ty #[vE, .slice (some ⟨s, 0, none⟩) 1 1]).run Try.prog W = .ok v' w' ∧ W.heap.size ≤ w'.heap.size ∧ Box w' c 92 (refA { L with ev := vE } st) ∧ (∃ a cap, v' = .slice a (ps.length + 1) cap) ∧ EvNewR w0 (w'.setCell ⟨c, 3, none⟩ v') c st L (ps ++ [(e, mv)]) v' := by
  obtain ⟨i0, hi0, hz0, hz1, hz2⟩ := info_parts info67
  obtain ⟨ma, mcap, hms⟩ : ∃ a cap, mv = .slice a e.mask.length cap := by
    obtain ⟨⟨a, cap, hh, _⟩, _⟩ := hmv; exact ⟨a, cap, hh⟩
  obtain ⟨v', w', hr, k2, k3, _, k5⟩ := run_append_own_at (P := Try.prog) W w0.heap.size 25 ty 67 i0 (.agg #[.int .i64 0, .int .i64 0, .slice none 0 0]) 3 40 Try.underlying25 hi0 hz0 hz1 hz2 rfl (by decide) vE ps.length (evCells ps) h.own ⟨s, 0, none⟩ 1 1 [.int .i64 e.at_, .int .i64 e.kind, mv] rfl (fun j u hu => by
    match j, hu with
    | 0, hu =>
      simp at hu; subst hu
      show W.cell? ((⟨s, 0, none⟩ : Addr).add 0) = _
      rw [show (⟨s, 0, none⟩ : Addr).add 0 = ⟨s, 0, none⟩ from by simp [Addr.add]]
      exact h0
    | 1, hu =>
      simp at hu; subst hu
      rw [show (⟨s, 0, none⟩ : Addr).add 1 = ⟨s, 1, none⟩ from by simp [Addr.add]]
      exact h1
    | 2, hu =>
      simp at hu; subst hu
      rw [show (⟨s, 0, none⟩ : Addr).add 2 = ⟨s, 2, none⟩ from by simp [Addr.add]]
      exact h2) (fun u hu => by simp at hu; rcases hu with rfl | rfl | rfl; rfl; rfl; rw [hms]; rfl) (by unfold maxLen; omega) (by omega) h.grown.size
  have hcx := h.chip.grown_own h.own k3 (by decide)
  refine ⟨v', w', hr, k3.size, hcx, ?_, ?_⟩
  · obtain ⟨_, ⟨hv, _⟩ | ⟨g, cap, cur, hv, _⟩⟩ := k2
    · omega
    · exact ⟨_, _, hv⟩
  have hng : ∀ g, some g = vE.ownBlock → w0.heap.size ≤ g ∧ ∃ cur, Box W g 67 cur := by
    intro g hg
    obtain ⟨_, ⟨rfl, _⟩ | ⟨g', cap, cur, rfl, hge, hh, _⟩⟩ := h.own
    · cases hg
    · have : g = g' := by simpa [Value.ownBlock] using hg
      subst this
      exact ⟨hge, cur, hh⟩
  have keepM : ∀ {p : Ev × Value}, MaskS W w0.heap.size p.2 p.1.mask → MaskS (w'.setCell ⟨c, 3, none⟩ v') w0.heap.size p.2 p.1.mask := fun hp => hp.heap fun g cap _ ho => by
    have e1 : w'.heap[g]? = W.heap[g]? := k3.block g ho.lt (fun e => by obtain ⟨_, cur, hx⟩ := hng g e; exact ho.tag hx (by decide) rfl)
    exact (Below.heap_setCell w' ⟨c, 3, none⟩ v' g (Ne.symm (ho.tag h.chip (by decide)))).trans e1
  refine ⟨hcx.set 3 v', ?_, ?_, ?_⟩
  · rw [List.length_append, evCells_snoc]
    refine k2.kept (grown_set1 w' c 3 v') ?_
    obtain ⟨_, ⟨hv, h0⟩ | ⟨g, cap, cur, hv, _, hh, _⟩⟩ := k2
    · omega
    · right
      intro e
      rw [hv] at e
      have : g = c := by simpa [Value.ownBlock] using e
      subst this
      have hbx : w'.heap[g]? = some (.cells _ 92 (0, 0)) := hcx
      rw [hh] at hbx
      cases hbx
  · intro p hp
    rcases List.mem_append.1 hp with hp | hp
    · exact keepM (h.masks p hp)
    · rw [List.mem_singleton.1 hp]
      exact keepM (p := (e, mv)) hmv
  · refine ⟨k3.os.trans h.grown.os, k3.tape.trans h.grown.tape, k3.output.trans h.grown.output, Nat.le_trans h.grown.size (by simpa [World.setCell] using k3.size), fun b hb hne => ?_⟩
    have hb' : b < W.heap.size := Nat.lt_of_lt_of_le hb h.grown.size
    rw [Below.heap_setCell w' ⟨c, 3, none⟩ v' b (fun e => hne (by rw [e]))]
    rw [k3.block b hb' (fun e => by have := (hng b e).1; omega)]
    exact h.grown.block b hb hne
/-- The events are the chip's. -/
theorem EvNewR.done {w0 W : World} {c : Nat} {st : Chip} {L : RLay} {ps : List (Ev × Value)} {vE : Value} {Fm Fr : Nat → Prop} {B : Nat} (hB : B ≤ w0.heap.size) (hC : RefR w0 Fm Fr c st L) (hFr : ∀ b, Fr b → B ≤ b) (h : EvNewR w0 W c st L ps vE) :
    RefR W Fm (fun b => B ≤ b ∧ b < W.heap.size ∧ ¬ Fm b) c { st with evs := ps.map Prod.fst } { L with ev := vE } := by
  refine hC.upd_new (fun b hb => ⟨hFr b hb, Nat.lt_of_lt_of_le (hC.ltr b hb) h.grown.size, fun hm => hC.disj b hm hb⟩) (fun b hm hr => hr.2.2 hm) (fun b hr => hr.2.1) vE _ h.chip h.grown ?_
  obtain ⟨hlen, hrow⟩ := h.own
  rcases hrow with ⟨rfl, h0⟩ | ⟨g, cap, cur, rfl, hg, hh, hc, hm, hs, ht⟩
  · refine ⟨none, 0, by simp [h0], by simp [h0], fun j e he => ?_⟩
    have : ps = [] := List.length_eq_zero_iff.1 h0
    subst this
    simp at he
  · refine ⟨some ⟨g, 0, none⟩, cap, by simp, by simpa using hc, fun j e he => ?_⟩
    rw [List.getElem?_map] at he
    cases hp : ps[j]? with
    | none => rw [hp] at he; cases he
    | some p =>
      rw [hp] at he
      cases he
      obtain ⟨c0, c1, c2⟩ := evCells_at ps j p hp
      have hjl : j < ps.length := (List.getElem?_eq_some_iff.1 hp).1
      have hcell : ∀ i v, i < ps.length * 3 → (evCells ps)[i]? = some v → W.cell? ⟨g, 0 + i, none⟩ = some v := by
        intro i v hi hv
        rw [← ht, List.getElem?_take_of_lt hi] at hv
        rw [show (⟨g, 0 + i, none⟩ : Addr) = ⟨g, i, none⟩ by simp]
        exact (Box.cell (show Box W g 67 cur from hh) i).trans (by simpa using hv)
      have hgl : g < W.heap.size := (show Box W g 67 cur from hh).lt
      have hgm : ¬ Fm g := fun hf => by have := hC.ltm g hf; omega
      refine ⟨g, 0, p.2, rfl, hgl, ⟨Nat.le_trans hB hg, hgl, hgm⟩, hcell _ _ (by omega) c0, hcell _ _ (by omega) c1, hcell _ _ (by omega) c2, fun W' hW' => ?_⟩
      obtain ⟨m1, m2⟩ := (h.masks p (List.mem_of_getElem? hp)).heap (W' := W') (fun gm cm hgm' ho => hW'.1 gm ⟨Nat.le_trans hB hgm', ho.lt, fun hf => by have := hC.ltm gm hf; omega⟩)
      exact m1
theorem evNewR_zero {w : World} {Fm Fr : Nat → Prop} {c : Nat} {st : Chip} {L : RLay} (hC : RefR w Fm Fr c st L) (he : L.ev = .slice none 0 0) : EvNewR w w c st L [] (.slice none 0 0) where
  chip := by
    have h := hC.chip
    unfold refA at h ⊢
    rw [he] at h
    exact h
  own := World.ownsRow_nil _ _ _ _
  masks p hp := by cases hp
  grown := ⟨rfl, rfl, rfl, Nat.le_refl _, fun _ _ _ => rfl⟩
end Go.Proofs.Ytlgjlhgdpiipbaa
/- The reference's page, can, ends, Read. -/
namespace Go.Proofs.Ytlgjlhgdpiipbaa
open Go.RowKit
/-- The chip's own cells. -/
theorem RefR.upd_chip {W W' : World} {Fm Fr : Nat → Prop} {c : Nat} {st : Chip} {L : RLay} (h : RefR W Fm Fr c st L) (v : Value) (evs : List Ev) (ops : Int) (off : Bool) (hb : Box W' c 92 (refA { L with ev := v } { st with evs := evs, ops := ops, off := off })) (hg : W.grownBy W' (some c))
    (hev : EvS W' Fr v evs) (ho : 0 ≤ ops ∧ ops ≤ 1000000) : RefR W' Fm Fr c { st with evs := evs, ops := ops, off := off } { L with ev := v } where
  chip := hb
  row := h.row.grown hg (by simpa using (h.row.ne h.chip (by decide)))
  rowAt := h.rowAt
  prow i hi := (h.prow i hi).grown hg (by simpa using ((h.prow i hi).ne h.chip (by decide)))
  prowAt := h.prowAt
  len := h.len
  pinj := h.pinj
  evs := hev
  cap := h.cap
  fc := h.fc
  fb := h.fb
  fp := h.fp
  disj := h.disj
  ltm b hb := Nat.lt_of_lt_of_le (h.ltm b hb) hg.size
  ltr b hb := Nat.lt_of_lt_of_le (h.ltr b hb) hg.size
  bnd := h.bnd
  opsb := ho
theorem RefR.evs_set {W : World} {Fm Fr : Nat → Prop} {c : Nat} {st : Chip} {L : RLay} (h : RefR W Fm Fr c st L) (j : Nat) (v : Value) : EvS (W.setCell ⟨c, j, none⟩ v) Fr L.ev st.evs :=
  h.evs.same ⟨fun b hb => Below.heap_setCell W ⟨c, j, none⟩ v b (fun e => by subst e; exact h.disj _ h.fc hb), by simp [World.setCell]⟩
theorem RefR.set_off {W : World} {Fm Fr : Nat → Prop} {c : Nat} {st : Chip} {L : RLay} (h : RefR W Fm Fr c st L) (o : Bool) : RefR (W.setCell ⟨c, 5, none⟩ (.bool (!o))) Fm Fr c { st with off := o } L :=
  h.upd_chip L.ev st.evs st.ops o (h.chip.set 5 _) (grown_set1 W c 5 _) (h.evs_set 5 _) h.opsb
theorem RefR.set_ops {W : World} {Fm Fr : Nat → Prop} {c : Nat} {st : Chip} {L : RLay} (h : RefR W Fm Fr c st L) (o : Int) (ho : 0 ≤ o ∧ o ≤ 1000000) : RefR (W.setCell ⟨c, 4, none⟩ (.int .i64 o)) Fm Fr c { st with ops := o } L :=
  h.upd_chip L.ev st.evs o st.off (h.chip.set 4 _) (grown_set1 W c 4 _) (h.evs_set 4 _) ho
def Chip.pageB (st : Chip) (p : Int) : Bool := decide (0 ≤ p ∧ p < st.pn)
set_option maxRecDepth 100000 in
set_option maxHeartbeats 4000000 in
theorem rpage_any {Fm Fr : Nat → Prop} {c : Nat} {st : Chip} {L : RLay} {w : World} (h : RefR w Fm Fr c st L) (p : Int) : Calls Try.prog 61 #[.pointer (some ⟨c, 0, none⟩), .int .i64 p] w (ValQ (.bool (st.pageB p)) w) := by
  have h1 := h.c1
  clear h
  have hb : st.pageB p = decide (0 ≤ p ∧ p < st.pn) := rfl
  obtain ⟨t, ht⟩ : ∃ t, st.pageB p = t := ⟨_, rfl⟩
  rw [ht] at hb ⊢
  clear ht
  by_cases h0 : 0 ≤ p
  · by_cases h2 : p < st.pn
    · obtain rfl : t = true := by rw [hb]; simp [h0, h2]
      clear hb
      go_enter Try.func61, Try.ntmps61
      go_wp2_with fail
      go_ret
      exact ⟨rfl, rfl⟩
    · obtain rfl : t = false := by rw [hb]; simp [h2]
      clear hb
      go_enter Try.func61, Try.ntmps61
      go_wp2_with fail
      go_ret
      exact ⟨rfl, rfl⟩
  · obtain rfl : t = false := by rw [hb]; simp [h0]
    clear hb
    go_enter Try.func61, Try.ntmps61
    go_wp2_with fail
    go_ret
    exact ⟨rfl, rfl⟩
theorem asks_eq (st : Chip) (n p : Int) : st.asks n p = if st.off then 8 else if st.there n = false ∨ st.pageB p = false then 22 else 0 := by
  unfold Chip.asks Chip.pageB
  rcases st.off with _ | _
  · rcases st.there n with _ | _
    · simp
    · by_cases h0 : 0 ≤ p <;> by_cases h1 : p < (st.pn : Int) <;> simp [h0, h1] <;> omega
  · rfl
/-- What is wrong ahead of an operation. -/
def Chip.can (st : Chip) (n p : Int) : Int := if st.asks n p ≠ 0 then st.asks n p else if (st.blk n.toNat).look.bad then 23 else 0
set_option maxRecDepth 100000 in
set_option maxHeartbeats 4000000 in
theorem can_any {Fm Fr : Nat → Prop} {c : Nat} {st : Chip} {L : RLay} {w : World} (h : RefR w Fm Fr c st L) (n p : Int) : Calls Try.prog 57 #[.pointer (some ⟨c, 0, none⟩), .int .i64 n, .int .i64 p] w (ValQ (.int .i64 (st.can n p)) w) := by
  have h5 := h.c5
  have h2 := h.c2
  have ht := Lib.hid (rblock_any h n)
  have hp := Lib.hid (rpage_any h p)
  have ha := asks_eq st n p
  have hcan : st.can n p = if st.asks n p ≠ 0 then st.asks n p else if (st.blk n.toNat).look.bad then 23 else 0 := rfl
  obtain ⟨a, haa⟩ : ∃ a, st.can n p = a := ⟨_, rfl⟩
  rw [haa] at hcan ⊢
  obtain ⟨x, hx⟩ : ∃ x, st.asks n p = x := ⟨_, rfl⟩
  rw [hx] at ha hcan
  clear haa hx
  rcases hoo : st.off with _ | _
  case true =>
    rw [hoo] at h5 ha
    have hz_ : x = 8 := ha; subst hz_
    have hz_ : a = 8 := hcan; subst hz_
    clear h ha hcan hoo
    go_enter Try.func57, Try.ntmps57
    go_wp2_with fail
    go_ret
    exact ⟨rfl, rfl⟩
  rw [hoo] at h5 ha
  rcases hth : st.there n with _ | _
  · rw [hth] at ht ha
    obtain rfl : x = 22 := by rw [ha]; simp
    have hz_ : a = 22 := hcan; subst hz_
    clear h ha hcan hoo hth
    go_enter Try.func57, Try.ntmps57
    go_wp2_with (go_at_call 54; (with_reducible refine ht.out.mono ?_); rintro e w' ⟨rfl, hw⟩; obtain rfl := hw.symm)
    go_ret
    exact ⟨rfl, rfl⟩
  · rw [hth] at ht ha
    rcases hpp : st.pageB p with _ | _
    · rw [hpp] at hp ha
      obtain rfl : x = 22 := by rw [ha]; simp
      have hz_ : a = 22 := hcan; subst hz_
      clear h ha hcan hoo hth hpp
      go_enter Try.func57, Try.ntmps57
      go_wp2_with (first | (go_at_call 54; (with_reducible refine ht.out.mono ?_); rintro e w' ⟨rfl, hw⟩; obtain rfl := hw.symm) | (go_at_call 61; (with_reducible refine hp.out.mono ?_); rintro e w' ⟨rfl, hw⟩; obtain rfl := hw.symm))
      go_ret
      exact ⟨rfl, rfl⟩
    · rw [hpp] at hp ha
      obtain rfl : x = 0 := by rw [ha]; simp
      obtain ⟨i, rfl, hi⟩ := Chip.there_nat hth
      have b3 := h.bcell hi 3 _ rfl
      have hI : (i : Int) < (st.bn : Int) := by omega
      have hI0 : (0 : Int) ≤ (i : Int) := by omega
      rcases hbb : (st.blk i).look.bad with _ | _
      · rw [hbb] at b3
        obtain rfl : a = 0 := by rw [hcan]; simp [hbb]
        clear h ha hcan hoo hth hpp hbb
        go_enter Try.func57, Try.ntmps57
        go_wp2_with (first | (go_at_call 54; (with_reducible refine ht.out.mono ?_); rintro e w' ⟨rfl, hw⟩; obtain rfl := hw.symm) | (go_at_call 61; (with_reducible refine hp.out.mono ?_); rintro e w' ⟨rfl, hw⟩; obtain rfl := hw.symm))
        go_ret
        exact ⟨rfl, rfl⟩
      · rw [hbb] at b3
        obtain rfl : a = 23 := by rw [hcan]; simp [hbb]
        clear h ha hcan hoo hth hpp hbb
        go_enter Try.func57, Try.ntmps57
        go_wp2_with (first | (go_at_call 54; (with_reducible refine ht.out.mono ?_); rintro e w' ⟨rfl, hw⟩; obtain rfl := hw.symm) | (go_at_call 61; (with_reducible refine hp.out.mono ?_); rintro e w' ⟨rfl, hw⟩; obtain rfl := hw.symm))
        go_ret
        exact ⟨rfl, rfl⟩
set_option maxRecDepth 100000 in
set_option maxHeartbeats 4000000 in
theorem rends_any {Fm Fr : Nat → Prop} {c : Nat} {st : Chip} {L : RLay} {w : World} (h : RefR w Fm Fr c st L) (a kind : Int) (mv : Value) : Calls Try.prog 60 #[.pointer (some ⟨c, 0, none⟩), .agg #[.int .i64 a, .int .i64 kind, mv]] w fun e w' => e = .returned (.int .i64 (st.ends kind).1) ∧ RefR w' Fm Fr c (st.ends kind).2.2 L ∧ Kept Fm w w' := by
  have hb := (Below.refl w.heap.size w).alloc (Nat.le_refl _) (.cells #[.int .i64 a, .int .i64 kind, mv] 67)
  have h' := h.below hb
  have hk0 : Kept Fm w _ := Kept.of_below hb
  have bx := Box.new w 67 #[.int .i64 a, .int .i64 kind, mv]
  obtain ⟨W0, hW0⟩ : ∃ W0, w.alloc (.cells #[.int .i64 a, .int .i64 kind, mv] 67) = W0 := ⟨_, rfl⟩
  rw [hW0] at h' hk0 bx
  have d1 := bx.get 1 _ rfl
  have h5 := h'.c5
  have f5 := h'.chip.frozen 5
  by_cases h2 : kind = 2
  · have he : st.ends kind = (8, false, { st with off := true }) := if_pos h2
    rw [he]
    subst h2
    have hr := Lib.hid (h'.set_off true)
    have hk := Lib.hid (hk0.trans (Kept.of_set (W := W0) c 5 (.bool (!true)) h'.fc) (fun b hb => .inl hb))
    clear h h' hk0 he bx hb
    go_enter Try.func60, Try.ntmps60
    go_wp2_with fail
    go_ret
    exact ⟨rfl, hr.out, hk.out⟩
  by_cases h1 : kind = 1
  · have he : st.ends kind = (25, true, st) := by unfold Chip.ends; rw [if_neg h2, if_pos h1]
    rw [he]
    subst h1
    replace h' := Lib.hid h'
    replace hk0 := Lib.hid hk0
    clear h he h2 bx hb
    go_enter Try.func60, Try.ntmps60
    go_wp2_with fail
    go_ret
    exact ⟨rfl, h'.out, hk0.out⟩
  · have he : st.ends kind = (0, false, st) := by unfold Chip.ends; rw [if_neg h2, if_neg h1]
    rw [he]
    have z : (kind == 2) = false := by simpa using h2
    have z1 : (kind == 1) = false := by simpa using h1
    replace h' := Lib.hid h'
    replace hk0 := Lib.hid hk0
    clear h he h2 h1 bx hb
    go_enter Try.func60, Try.ntmps60
    go_wp2_with fail
    go_ret
    exact ⟨rfl, h'.out, hk0.out⟩
set_option maxRecDepth 100000 in
theorem res53 {W : World} {b : Nat} {t : TypeId} {l : List UInt8} {n : Int} (h : Box W b t (cellsB l)) (hl : l.length = 288) {tmps : Array Value} (h6 : tmps.getD 6 undef = .pointer (some ⟨b, 0, none⟩)) (h7 : tmps.getD 7 undef = .int .i64 n) :
    (results Try.f53 tmps).run Try.prog W = .ok (.tuple #[pgV l, .int .i64 n]) W := by
  have h3 := h.loadPg hl
  simp at h6 h7
  simp [results, Try.results53, asAddr, h6, h7, h3]
set_option maxRecDepth 100000 in
set_option maxHeartbeats 4000000 in
theorem rread_any {Fm Fr : Nat → Prop} {c : Nat} {st : Chip} {L : RLay} {w : World} (h : RefR w Fm Fr c st L) (n page : Int) : Calls Try.prog 53 #[.pointer (some ⟨c, 0, none⟩), .int .i64 n, .int .i64 page] w fun e w' => e = .returned (.tuple #[pgV (st.readAt n page).1, .int .i64 (st.readAt n page).2]) ∧ Below w.heap.size w w' := by
  have hz := zero48
  have hB := (Below.refl w.heap.size w).alloc (Nat.le_refl _) (.cells (cellsB (rep 288 0)) 48)
  have h' := h.below ((Below.refl w.heap.size w).alloc (Nat.le_refl _) (.cells (cellsB (rep 288 0)) 48))
  have ht := Lib.hid (rblock_any h' n)
  have hp := Lib.hid (rpage_any h' page)
  have bx := Box.new w 48 (cellsB (rep 288 0))
  have h2 := h'.c2
  have h5 := h'.c5
  obtain ⟨W0, hW0⟩ : ∃ W0, w.alloc (.cells (cellsB (rep 288 0)) 48) = W0 := ⟨_, rfl⟩
  rw [hW0] at hB h2 h5 ht hp bx h'
  have hst := fun (l : List UInt8) (hl : l.length = 288) => bx.storePg (l := l) (by simp) hl
  have ha := asks_eq st n page
  have hread : st.readAt n page = if st.asks n page = 0 then ((st.blk n.toNat).pages page.toNat, 0) else (rep 288 0, st.asks n page) := rfl
  obtain ⟨R, hRR⟩ : ∃ R, st.readAt n page = R := ⟨_, rfl⟩
  rw [hRR] at hread ⊢
  obtain ⟨x, hx⟩ : ∃ x, st.asks n page = x := ⟨_, rfl⟩
  rw [hx] at ha hread
  clear hRR hx
  obtain ⟨hst0, b5, hg⟩ := hst (rep 288 0) (by simp)
  have hB5 := Lib.hid (hB.grown hg hB.size (fun k e => by cases e; exact Nat.le_refl _))
  replace b5 := Lib.hid b5
  unfold pgV at hst0
  rcases hoo : st.off with _ | _
  case true =>
    rw [hoo] at h5 ha
    have hz_ : x = 8 := ha; subst hz_
    have hz_ : R = (rep 288 0, 8) := hread; subst hz_
    clear h h' ha hread hoo hst bx hB hg
    go_enter Try.func53, Try.ntmps53
    go_wp2_with (first | fail | (refine wpList_store_var rfl 48 _ _ rfl _ rfl _ rfl hst0 ?_))
    exact bodyPost_ret (res53 b5.out (rep_len 288 0) rfl rfl) rfl ⟨rfl, hB5.out⟩
  rw [hoo] at h5 ha
  rcases hth : st.there n with _ | _
  · rw [hth] at ht ha
    obtain rfl : x = 22 := by rw [ha]; simp
    have hz_ : R = (rep 288 0, 22) := hread; subst hz_
    clear h h' ha hread hoo hth hst bx hB hg
    go_enter Try.func53, Try.ntmps53
    go_wp2_with (first | (go_at_call 54; (with_reducible refine ht.out.mono ?_); rintro e w' ⟨rfl, hw⟩; obtain rfl := hw.symm) | (refine wpList_store_var rfl 48 _ _ rfl _ rfl _ rfl hst0 ?_))
    exact bodyPost_ret (res53 b5.out (rep_len 288 0) rfl rfl) rfl ⟨rfl, hB5.out⟩
  · rw [hth] at ht ha
    rcases hpp : st.pageB page with _ | _
    · rw [hpp] at hp ha
      obtain rfl : x = 22 := by rw [ha]; simp
      have hz_ : R = (rep 288 0, 22) := hread; subst hz_
      clear h h' ha hread hoo hth hst bx hB hg hpp
      go_enter Try.func53, Try.ntmps53
      go_wp2_with (first | ((go_at_call 54; (with_reducible refine ht.out.mono ?_); rintro e w' ⟨rfl, hw⟩; obtain rfl := hw.symm)) | ((go_at_call 61; (with_reducible refine hp.out.mono ?_); rintro e w' ⟨rfl, hw⟩; obtain rfl := hw.symm)) | (refine wpList_store_var rfl 48 _ _ rfl _ rfl _ rfl hst0 ?_))
      exact bodyPost_ret (res53 b5.out (rep_len 288 0) rfl rfl) rfl ⟨rfl, hB5.out⟩
    · rw [hpp] at hp ha
      obtain rfl : x = 0 := by rw [ha]; simp
      obtain ⟨i, rfl, hi⟩ := Chip.there_nat hth
      have hpb := of_decide_eq_true (show decide (0 ≤ page ∧ page < st.pn) = true from hpp)
      obtain ⟨j, rfl⟩ := Int.eq_ofNat_of_zero_le hpb.1
      have hj : j < st.pn := by omega
      have hz_ : R = ((st.blk i).pages j, 0) := hread; subst hz_
      have b0 : W0.cell? ⟨L.ba, i * 4, none⟩ = _ := h'.bcell hi 0 _ rfl
      have hld := h'.loadPg hi hj
      have hl := h'.len i hi j hj
      have hI : (i : Int) < (st.bn : Int) := by omega
      have hI0 : (0 : Int) ≤ (i : Int) := by omega
      have hI2 : (j : Int) < (st.pn : Int) := by omega
      have hI3 : (0 : Int) ≤ (j : Int) := by omega
      obtain ⟨l, hlp⟩ : ∃ l, (st.blk i).pages j = l := ⟨_, rfl⟩
      rw [hlp] at hld hl ⊢
      obtain ⟨hst1, b6, hg6⟩ := hst l hl
      have hB6 := Lib.hid (hB.grown hg6 hB.size (fun k e => by cases e; exact Nat.le_refl _))
      replace b6 := Lib.hid b6
      unfold pgV at hst1 hld
      clear h h' ha hread hoo hth hst bx hB hg hg6 hpp hst0 b5 hB5 hlp hpb
      go_enter Try.func53, Try.ntmps53
      go_wp2_with (first | (go_at_call 54; (with_reducible refine ht.out.mono ?_); rintro e w' ⟨rfl, hw⟩; obtain rfl := hw.symm) | (go_at_call 61; (with_reducible refine hp.out.mono ?_); rintro e w' ⟨rfl, hw⟩; obtain rfl := hw.symm) | (refine wpList_load_var rfl 48 _ rfl _ rfl _ hld ?_) | (refine wpList_store_var rfl 48 _ _ rfl _ rfl _ rfl hst1 ?_))
      exact bodyPost_ret (res53 b6.out hl rfl rfl) rfl ⟨rfl, hB6.out⟩
end Go.Proofs.Ytlgjlhgdpiipbaa
