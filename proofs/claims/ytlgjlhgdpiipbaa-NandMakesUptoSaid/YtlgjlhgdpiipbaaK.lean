/- Look and Read of a chip. -/
import Derived.Test.YtlgjlhgdpiipbaaJ
namespace Go.Proofs.Ytlgjlhgdpiipbaa
open Go.RowKit
def Chip.lookAt (st : Chip) (n : Int) : Look × Int := if st.there n then ((st.blk n.toNat).look, 0) else (zeroLook, 22)
def Chip.readAt (st : Chip) (n page : Int) : List UInt8 × Int := if st.asks n page = 0 then ((st.blk n.toNat).pages page.toNat, 0) else (rep 288 0, st.asks n page)
theorem Chip.there_nat {st : Chip} {n : Int} (h : st.there n = true) : ∃ i : Nat, n = i ∧ i < st.bn := by
  unfold Chip.there at h
  have h := of_decide_eq_true h
  exact ⟨n.toNat, by omega, by omega⟩
theorem Chip.asks_ok {st : Chip} {n page : Int} (h : st.asks n page = 0) : st.off = false ∧ st.there n = true ∧ ∃ i j : Nat, n = i ∧ i < st.bn ∧ page = j ∧ j < st.pn := by
  unfold Chip.asks at h
  split at h
  · cases h
  · rename_i ho
    split at h
    · cases h
    · rename_i hn
      have h1 : st.there n = true := by
        rcases hh : st.there n with _ | _
        · exact absurd (.inl hh) hn
        · rfl
      obtain ⟨i, hi, hi2⟩ := Chip.there_nat h1
      have h2 : ¬ page < 0 := fun h => hn (.inr (.inl h))
      have h3 : ¬ (st.pn : Int) ≤ page := fun h => hn (.inr (.inr h))
      exact ⟨by simpa using ho, h1, i, page.toNat, hi, hi2, by omega, by omega⟩
section
variable {W : World} {Fm Fr : Nat → Prop} {c : Nat} {st : Chip} {L : Lay}
theorem ChipR.r (h : ChipR W Fm Fr c st L) {i : Nat} (hi : i < st.bn) : W.cell? ⟨L.ba, i, none⟩ = some (.pointer (some ⟨L.k i, 0, none⟩)) := h.row.get i _ (h.rowAt i hi)
theorem ChipR.b0 (h : ChipR W Fm Fr c st L) {i : Nat} (hi : i < st.bn) : W.cell? ⟨L.k i, 0, none⟩ = some (.slice (some ⟨L.p i, 0, none⟩) st.pn (L.parr i).size) := (h.blk i hi).get 0 _ rfl
theorem ChipR.b1 (h : ChipR W Fm Fr c st L) {i : Nat} (hi : i < st.bn) : W.cell? ⟨L.k i, 1, none⟩ = some (.int .i64 (st.blk i).look.wear) := (h.blk i hi).get 1 _ rfl
theorem ChipR.b2 (h : ChipR W Fm Fr c st L) {i : Nat} (hi : i < st.bn) : W.cell? ⟨L.k i, 2, none⟩ = some (.int .i64 (st.blk i).look.next) := (h.blk i hi).get 2 _ rfl
theorem ChipR.b3 (h : ChipR W Fm Fr c st L) {i : Nat} (hi : i < st.bn) : W.cell? ⟨L.k i, 3, none⟩ = some (.bool (st.blk i).look.bad) := (h.blk i hi).get 3 _ rfl
theorem ChipR.pp (h : ChipR W Fm Fr c st L) {i j : Nat} (hi : i < st.bn) (hj : j < st.pn) : W.cell? ⟨L.p i, j, none⟩ = some (.pointer (some ⟨L.q i j, 0, none⟩)) := (h.prow i hi).get j _ (h.prowAt i hi j hj)
end
set_option maxRecDepth 100000 in
theorem res15 {W : World} {b : Nat} {l : Look} {n : Int} (h : Box W b 42 (lookA l)) {tmps : Array Value} (h4 : tmps.getD 4 undef = .pointer (some ⟨b, 0, none⟩)) (h5 : tmps.getD 5 undef = .int .i64 n) :
    (results Try.f15 tmps).run Try.prog W = .ok (.tuple #[lookV l, .int .i64 n]) W := by
  have d0 := h.get 0 _ rfl
  have d1 := h.get 1 _ rfl
  have d2 := h.get 2 _ rfl
  simp at h4 h5
  simp [results, Try.results15, go_sem, h4, h5, d0, d1, d2, lookV, lookA]
set_option maxRecDepth 100000 in
set_option maxHeartbeats 2000000 in
theorem look_any {Fm Fr : Nat → Prop} {c : Nat} {st : Chip} {L : Lay} {w : World} (h : ChipR w Fm Fr c st L) (n : Int) : Calls Try.prog 15 #[.pointer (some ⟨c, 0, none⟩), .int .i64 n] w fun e w' => e = .returned (.tuple #[lookV (st.lookAt n).1, .int .i64 (st.lookAt n).2]) ∧ Below w.heap.size w w' := by
  have hB := (Below.refl w.heap.size w).alloc (Nat.le_refl _) (.cells #[.int .i64 0, .int .i64 0, .bool false] 42)
  have h' := h.below ((Below.refl w.heap.size w).alloc (Nat.le_refl _) (.cells #[.int .i64 0, .int .i64 0, .bool false] 42))
  have hm := Lib.hid (made_any h')
  have ht := Lib.hid (there_any h' n)
  have bx := Box.new w 42 #[.int .i64 0, .int .i64 0, .bool false]
  have h2 := h'.c2
  obtain ⟨W0, hW0⟩ : ∃ W0, w.alloc (.cells #[.int .i64 0, .int .i64 0, .bool false] 42) = W0 := ⟨_, rfl⟩
  rw [hW0] at hB h2 hm ht bx h'
  have d0 := bx.get 0 _ rfl
  have d1 := bx.get 1 _ rfl
  have d2 := bx.get 2 _ rfl
  have f0 := bx.frozen 0
  have f1 := bx.frozen 1
  have f2 := bx.frozen 2
  have hfin := fun (l : Look) => ((bx.set 0 (.int .i64 l.wear)).set 1 (.int .i64 l.next)).set 2 (.bool l.bad)
  have hBf := fun (l : Look) => ((hB.setCell (p := ⟨w.heap.size, 0, none⟩) (Nat.le_refl _) (.int .i64 l.wear)).setCell (p := ⟨w.heap.size, 1, none⟩) (Nat.le_refl _) (.int .i64 l.next)).setCell (p := ⟨w.heap.size, 2, none⟩) (Nat.le_refl _) (.bool l.bad)
  rcases hth : st.there n with _ | _
  · have hl : st.lookAt n = (zeroLook, 22) := by unfold Chip.lookAt; rw [hth]; rfl
    rw [hl]
    rw [hth] at ht
    have bf := Lib.hid (hfin zeroLook)
    have hb := Lib.hid (hBf zeroLook)
    clear h h' hl hth hfin hBf bx hB
    go_enter Try.func15, Try.ntmps15
    go_wp2_with (first | (go_at_call 36; (with_reducible refine hm.out.mono ?_); rintro e w' ⟨rfl, hw⟩; obtain rfl := hw.symm) | (go_at_call 31; (with_reducible refine ht.out.mono ?_); rintro e w' ⟨rfl, hw⟩; obtain rfl := hw.symm))
    exact bodyPost_ret (res15 (l := zeroLook) bf.out rfl rfl) rfl ⟨rfl, hb.out⟩
  · obtain ⟨i, rfl, hi⟩ := Chip.there_nat hth
    have hl : st.lookAt (i : Int) = ((st.blk i).look, 0) := by unfold Chip.lookAt; rw [hth, if_pos rfl]; rfl
    rw [hl]
    rw [hth] at ht
    have r0 := h'.r hi
    have b1 := h'.b1 hi
    have b2 := h'.b2 hi
    have b3 := h'.b3 hi
    have hI : (i : Int) < (st.bn : Int) := by omega
    have hI0 : (0 : Int) ≤ (i : Int) := by omega
    obtain ⟨l, hlk⟩ : ∃ l, (st.blk i).look = l := ⟨_, rfl⟩
    rw [hlk] at b1 b2 b3 ⊢
    have bf := Lib.hid (hfin l)
    have hb := Lib.hid (hBf l)
    clear h h' hl hth hfin hBf bx hB hlk
    go_enter Try.func15, Try.ntmps15
    go_wp2_with (first | (go_at_call 36; (with_reducible refine hm.out.mono ?_); rintro e w' ⟨rfl, hw⟩; obtain rfl := hw.symm) | (go_at_call 31; (with_reducible refine ht.out.mono ?_); rintro e w' ⟨rfl, hw⟩; obtain rfl := hw.symm))
    exact bodyPost_ret (res15 (l := l) bf.out rfl rfl) rfl ⟨rfl, hb.out⟩
set_option maxRecDepth 100000 in
theorem res29 {W : World} {b : Nat} {t : TypeId} {l : List UInt8} {n : Int} (h : Box W b t (cellsB l)) (hl : l.length = 288) {tmps : Array Value} (h6 : tmps.getD 6 undef = .pointer (some ⟨b, 0, none⟩)) (h7 : tmps.getD 7 undef = .int .i64 n) :
    (results Try.f29 tmps).run Try.prog W = .ok (.tuple #[pgV l, .int .i64 n]) W := by
  have h3 := h.loadPg hl
  simp at h6 h7
  simp [results, Try.results29, asAddr, h6, h7, h3]
set_option maxRecDepth 100000 in
set_option maxHeartbeats 2000000 in
theorem read_any {Fm Fr : Nat → Prop} {c : Nat} {st : Chip} {L : Lay} {w : World} (h : ChipR w Fm Fr c st L) (n page : Int) : Calls Try.prog 29 #[.pointer (some ⟨c, 0, none⟩), .int .i64 n, .int .i64 page] w fun e w' => e = .returned (.tuple #[pgV (st.readAt n page).1, .int .i64 (st.readAt n page).2]) ∧ Below w.heap.size w w' := by
  have hz := zero48
  have hB := (Below.refl w.heap.size w).alloc (Nat.le_refl _) (.cells (cellsB (rep 288 0)) 48)
  have h' := h.below ((Below.refl w.heap.size w).alloc (Nat.le_refl _) (.cells (cellsB (rep 288 0)) 48))
  have ha := Lib.hid (asks_any h' n page)
  have bx := Box.new w 48 (cellsB (rep 288 0))
  have h2 := h'.c2
  obtain ⟨W0, hW0⟩ : ∃ W0, w.alloc (.cells (cellsB (rep 288 0)) 48) = W0 := ⟨_, rfl⟩
  rw [hW0] at hB h2 ha bx h'
  have hst := fun (W : World) (hW : Below W0.heap.size W0 W) (l : List UInt8) (hl : l.length = 288) => (bx.below hW).storePg (l := l) (by simp) hl
  have hBf := fun (W : World) (hW : Below W0.heap.size W0 W) => hB.trans (hW.mono hB.size)
  by_cases h0 : st.asks n page = 0
  case neg =>
    have hl : st.readAt n page = (rep 288 0, st.asks n page) := by unfold Chip.readAt; rw [if_neg h0]
    rw [hl]
    obtain ⟨a, haa⟩ : ∃ a, st.asks n page = a := ⟨_, rfl⟩
    rw [haa] at ha h0 ⊢
    have hn : (a != 0) = true := by simpa using h0
    obtain ⟨hst0, b5, hg⟩ := hst W0 (Below.refl _ _) (rep 288 0) (by simp)
    have hB5 := Lib.hid (hB.grown hg hB.size (fun k e => by cases e; exact Nat.le_refl _))
    replace b5 := Lib.hid b5
    clear h h' hl h0 hst hBf bx hB haa hg h2
    unfold pgV at hst0
    go_enter Try.func29, Try.ntmps29
    go_wp2_with (first | (go_at_call 44; (with_reducible refine ha.out.mono ?_); rintro e w' ⟨rfl, hw⟩; obtain rfl := hw.symm) | (refine wpList_store_var rfl 48 _ _ rfl _ rfl _ rfl hst0 ?_))
    exact bodyPost_ret (res29 b5.out (rep_len 288 0) rfl rfl) rfl ⟨rfl, hB5.out⟩
  · obtain ⟨ho, hth, i, j, rfl, hi, rfl, hj⟩ := Chip.asks_ok h0
    have hl : st.readAt (i : Int) (j : Int) = ((st.blk i).pages j, 0) := by unfold Chip.readAt; rw [if_pos h0]; rfl
    rw [hl]
    rw [h0] at ha
    have r0 := h'.r hi
    have b0 := h'.b0 hi
    have p0 := h'.pp hi hj
    have hpl := h'.len i hi j hj
    have hq := h'.byt i hi j hj
    have hI : (i : Int) < (st.bn : Int) := by omega
    have hI0 : (0 : Int) ≤ (i : Int) := by omega
    have hJ : (j : Int) < (st.pn : Int) := by omega
    have hJ0 : (0 : Int) ≤ (j : Int) := by omega
    obtain ⟨l, hll⟩ : ∃ l, (st.blk i).pages j = l := ⟨_, rfl⟩
    rw [hll] at hpl hq ⊢
    have h38 := Lib.hid (bpage_any l (L.q i j) 110 W0 hq hpl)
    replace hst := Lib.hid (fun W hW => hst W hW l hpl)
    replace hBf := Lib.hid hBf
    clear h h' hl h0 hth ho hll hB bx hq
    go_enter Try.func29, Try.ntmps29
    go_wp2_with (first | (go_at_call 44; (with_reducible refine ha.out.mono ?_); rintro e w' ⟨rfl, hw⟩; obtain rfl := hw.symm) | (go_at_call 38; (with_reducible refine h38.out.mono ?_); rintro e w5 ⟨rfl, hw5⟩; obtain ⟨hst0, b5, hg⟩ := hst.out w5 hw5; have hB5 := Lib.hid ((hBf.out w5 hw5).grown hg (hBf.out w5 hw5).size (fun k e => by cases e; exact Nat.le_refl _)); replace b5 := Lib.hid b5; clear hg hw5) | (refine wpList_store_var rfl 48 _ _ rfl _ rfl _ rfl hst0 ?_))
    exact bodyPost_ret (res29 b5.out hpl rfl rfl) rfl ⟨rfl, hB5.out⟩
end Go.Proofs.Ytlgjlhgdpiipbaa
