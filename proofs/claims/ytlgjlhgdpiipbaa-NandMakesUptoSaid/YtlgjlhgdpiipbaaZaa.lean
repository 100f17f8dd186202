/- The reference's chip in memory; its Look. -/
import Derived.Test.YtlgjlhgdpiipbaaZn
import Derived.Test.YtlgjlhgdpiipbaaZj
namespace Go.Proofs.Ytlgjlhgdpiipbaa
open Go.RowKit
/-- Where the parts of the reference's chip lie: a row of blocks, four cells each; rows of pages. -/
structure RLay where
  ba : Nat
  bcap : Nat
  barr : Array Value
  ev : Value
  p : Nat → Nat
  pcap : Nat → Nat
  parr : Nat → Array Value
def refA (L : RLay) (st : Chip) : Array Value := #[.int .i64 st.bn, .int .i64 st.pn, .slice (some ⟨L.ba, 0, none⟩) st.bn L.bcap, L.ev, .int .i64 st.ops, .bool (!st.off)]
def rblkL (L : RLay) (st : Chip) (i : Nat) : List Value := [.slice (some ⟨L.p i, 0, none⟩) st.pn (L.pcap i), .int .i64 (st.blk i).look.wear, .int .i64 (st.blk i).look.next, .bool (st.blk i).look.bad]
/-- The reference's chip in memory: Fm are the blocks that its calls may change, Fr those that stay. -/
structure RefR (W : World) (Fm Fr : Nat → Prop) (c : Nat) (st : Chip) (L : RLay) : Prop where
  chip : Box W c 92 (refA L st)
  row : Box W L.ba 94 L.barr
  rowAt : ∀ i, i < st.bn → ∀ x u, (rblkL L st i)[x]? = some u → L.barr[i * 4 + x]? = some u
  prow : ∀ i, i < st.bn → Box W (L.p i) 48 (L.parr i)
  prowAt : ∀ i, i < st.bn → ∀ j, j < st.pn → ∀ x u, (pgL ((st.blk i).pages j))[x]? = some u → (L.parr i)[j * 288 + x]? = some u
  len : ∀ i, i < st.bn → ∀ j, j < st.pn → ((st.blk i).pages j).length = 288
  pinj : ∀ i, i < st.bn → ∀ i', i' < st.bn → L.p i = L.p i' → i = i'
  evs : EvS W Fr L.ev st.evs
  cap : st.bn ≤ L.bcap ∧ ∀ i, i < st.bn → st.pn ≤ L.pcap i
  fc : Fm c
  fb : Fm L.ba
  fp : ∀ i, i < st.bn → Fm (L.p i)
  disj : ∀ b, Fm b → ¬ Fr b
  ltm : ∀ b, Fm b → b < W.heap.size
  ltr : ∀ b, Fr b → b < W.heap.size
  bnd : 0 < st.bn ∧ st.bn ≤ 256 ∧ 0 < st.pn ∧ st.pn ≤ 32
  opsb : 0 ≤ st.ops ∧ st.ops ≤ 1000000
section
variable {W W' : World} {Fm Fr : Nat → Prop} {c : Nat} {st : Chip} {L : RLay}
theorem RefR.same (h : RefR W Fm Fr c st L) (hs : Same (fun b => Fm b ∨ Fr b) W W') : RefR W' Fm Fr c st L where
  chip := h.chip.same hs (.inl h.fc)
  row := h.row.same hs (.inl h.fb)
  rowAt := h.rowAt
  prow i hi := (h.prow i hi).same hs (.inl (h.fp i hi))
  prowAt := h.prowAt
  len := h.len
  pinj := h.pinj
  evs := h.evs.same ⟨fun b hb => hs.1 b (.inr hb), hs.2⟩
  cap := h.cap
  fc := h.fc
  fb := h.fb
  fp := h.fp
  disj := h.disj
  ltm b hb := Nat.lt_of_lt_of_le (h.ltm b hb) hs.2
  ltr b hb := Nat.lt_of_lt_of_le (h.ltr b hb) hs.2
  bnd := h.bnd
  opsb := h.opsb
theorem RefR.below (h : RefR W Fm Fr c st L) (hb : Below W.heap.size W W') : RefR W' Fm Fr c st L :=
  h.same ⟨fun b hF => hb.block b (by rcases hF with hF | hF; exact h.ltm b hF; exact h.ltr b hF), hb.size⟩
theorem RefR.c0 (h : RefR W Fm Fr c st L) : W.cell? ⟨c, 0, none⟩ = some (.int .i64 st.bn) := h.chip.get 0 _ rfl
theorem RefR.c1 (h : RefR W Fm Fr c st L) : W.cell? ⟨c, 1, none⟩ = some (.int .i64 st.pn) := h.chip.get 1 _ rfl
theorem RefR.c2 (h : RefR W Fm Fr c st L) : W.cell? ⟨c, 2, none⟩ = some (.slice (some ⟨L.ba, 0, none⟩) st.bn L.bcap) := h.chip.get 2 _ rfl
theorem RefR.c3 (h : RefR W Fm Fr c st L) : W.cell? ⟨c, 3, none⟩ = some L.ev := h.chip.get 3 _ rfl
theorem RefR.c4 (h : RefR W Fm Fr c st L) : W.cell? ⟨c, 4, none⟩ = some (.int .i64 st.ops) := h.chip.get 4 _ rfl
theorem RefR.c5 (h : RefR W Fm Fr c st L) : W.cell? ⟨c, 5, none⟩ = some (.bool (!st.off)) := h.chip.get 5 _ rfl
theorem RefR.bcell (h : RefR W Fm Fr c st L) {i : Nat} (hi : i < st.bn) (x : Nat) (u : Value) (hu : (rblkL L st i)[x]? = some u) : W.cell? ⟨L.ba, i * 4 + x, none⟩ = some u := h.row.get _ _ (h.rowAt i hi x u hu)
theorem RefR.loadPg (h : RefR W Fm Fr c st L) {i : Nat} (hi : i < st.bn) {j : Nat} (hj : j < st.pn) : (loadVar 48 ⟨L.p i, j * 288, none⟩).run Try.prog W = .ok (pgV ((st.blk i).pages j)) W :=
  loadPg_at W (L.p i) (j * 288) _ (h.len i hi j hj) (fun x u hu => (h.prow i hi).get _ _ (h.prowAt i hi j hj x u (by rw [pgL_eq (h.len i hi j hj)]; exact hu)))
end
set_option maxRecDepth 100000 in
set_option maxHeartbeats 2000000 in
theorem rblock_any {Fm Fr : Nat → Prop} {c : Nat} {st : Chip} {L : RLay} {w : World} (h : RefR w Fm Fr c st L) (n : Int) : Calls Try.prog 54 #[.pointer (some ⟨c, 0, none⟩), .int .i64 n] w (ValQ (.bool (st.there n)) w) := by
  have h0 := h.c0
  clear h
  have hy := Lib.hid (@Chip.there_yes st n)
  have hn := Lib.hid (@Chip.there_no st n)
  obtain ⟨t, ht⟩ : ∃ t, st.there n = t := ⟨_, rfl⟩
  rw [ht] at hy hn ⊢
  clear ht
  by_cases h0' : 0 ≤ n
  · by_cases h1 : n < st.bn
    · obtain rfl := hy.out h0' h1
      go_enter Try.func54, Try.ntmps54
      go_wp2_with fail
      go_ret
      exact ⟨rfl, rfl⟩
    · obtain rfl := hn.out (fun h => h1 h.2)
      go_enter Try.func54, Try.ntmps54
      go_wp2_with fail
      go_ret
      exact ⟨rfl, rfl⟩
  · obtain rfl := hn.out (fun h => h0' h.1)
    go_enter Try.func54, Try.ntmps54
    go_wp2_with fail
    go_ret
    exact ⟨rfl, rfl⟩
set_option maxRecDepth 100000 in
theorem res37 {W : World} {b : Nat} {l : Look} (h : Box W b 42 (lookA l)) {tmps : Array Value} {n : Int} (h4 : tmps.getD 4 undef = .pointer (some ⟨b, 0, none⟩)) (h5 : tmps.getD 5 undef = .int .i64 n) :
    (results Try.f37 tmps).run Try.prog W = .ok (.tuple #[lookV l, .int .i64 n]) W := by
  have d0 := h.get 0 _ rfl
  have d1 := h.get 1 _ rfl
  have d2 := h.get 2 _ rfl
  simp at h4 h5
  simp [results, Try.results37, go_sem, h4, h5, d0, d1, d2, lookV, lookA]
set_option maxRecDepth 100000 in
set_option maxHeartbeats 2000000 in
theorem rlook_any {Fm Fr : Nat → Prop} {c : Nat} {st : Chip} {L : RLay} {w : World} (h : RefR w Fm Fr c st L) (n : Int) : Calls Try.prog 37 #[.pointer (some ⟨c, 0, none⟩), .int .i64 n] w fun e w' => e = .returned (.tuple #[lookV (st.lookAt n).1, .int .i64 (st.lookAt n).2]) ∧ Below w.heap.size w w' := by
  have hB := (Below.refl w.heap.size w).alloc (Nat.le_refl _) (.cells #[.int .i64 0, .int .i64 0, .bool false] 42)
  have h' := h.below ((Below.refl w.heap.size w).alloc (Nat.le_refl _) (.cells #[.int .i64 0, .int .i64 0, .bool false] 42))
  have ht := Lib.hid (rblock_any h' n)
  have bx := Box.new w 42 #[.int .i64 0, .int .i64 0, .bool false]
  have h2 := h'.c2
  obtain ⟨W0, hW0⟩ : ∃ W0, w.alloc (.cells #[.int .i64 0, .int .i64 0, .bool false] 42) = W0 := ⟨_, rfl⟩
  rw [hW0] at hB h2 ht bx h'
  have d0 := bx.get 0 _ rfl
  have d1 := bx.get 1 _ rfl
  have d2 := bx.get 2 _ rfl
  have f0 := bx.frozen 0
  have f1 := bx.frozen 1
  have f2 := bx.frozen 2
  have hfin := fun (l : Look) => ((bx.set 0 (.int .i64 l.wear)).set 1 (.int .i64 l.next)).set 2 (.bool l.bad)
  have hBf := fun (l : Look) => ((hB.setCell (p := ⟨w.heap.size, 0, none⟩) (Nat.le_refl _) (.int .i64 l.wear)).setCell (p := ⟨w.heap.size, 1, none⟩) (Nat.le_refl _) (.int .i64 l.next)).setCell (p := ⟨w.heap.size, 2, none⟩) (Nat.le_refl _) (.bool l.bad)
  rcases hth : st.there n with _ | _
  · have hl : st.lookAt n = (zeroLook, 22) := by unfold Chip.lookAt; rw [hth]; rfl
    rw [hl]
    rw [hth] at ht
    have bf := Lib.hid (hfin zeroLook)
    have hb := Lib.hid (hBf zeroLook)
    clear h h' hl hth hfin hBf bx hB
    go_enter Try.func37, Try.ntmps37
    go_wp2_with (go_at_call 54; (with_reducible refine ht.out.mono ?_); rintro e w' ⟨rfl, hw⟩; obtain rfl := hw.symm)
    exact bodyPost_ret (res37 (l := zeroLook) bf.out rfl rfl) rfl ⟨rfl, hb.out⟩
  · obtain ⟨i, rfl, hi⟩ := Chip.there_nat hth
    have hl : st.lookAt (i : Int) = ((st.blk i).look, 0) := by unfold Chip.lookAt; rw [hth, if_pos rfl]; rfl
    rw [hl]
    rw [hth] at ht
    have b1 := h'.bcell hi 1 _ rfl
    have b2 := h'.bcell hi 2 _ rfl
    have b3 := h'.bcell hi 3 _ rfl
    have hI : (i : Int) < (st.bn : Int) := by omega
    have hI0 : (0 : Int) ≤ (i : Int) := by omega
    obtain ⟨l, hlk⟩ : ∃ l, (st.blk i).look = l := ⟨_, rfl⟩
    rw [hlk] at b1 b2 b3 ⊢
    have bf := Lib.hid (hfin l)
    have hb := Lib.hid (hBf l)
    clear h h' hl hth hfin hBf bx hB hlk
    go_enter Try.func37, Try.ntmps37
    go_wp2_with (go_at_call 54; (with_reducible refine ht.out.mono ?_); rintro e w' ⟨rfl, hw⟩; obtain rfl := hw.symm)
    exact bodyPost_ret (res37 (l := l) bf.out rfl rfl) rfl ⟨rfl, hb.out⟩
end Go.Proofs.Ytlgjlhgdpiipbaa
