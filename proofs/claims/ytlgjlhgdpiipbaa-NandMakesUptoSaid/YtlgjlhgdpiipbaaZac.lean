/- The reference's New: what it has of a chip that is under way. -/
import Derived.Test.YtlgjlhgdpiipbaaZaa
import Derived.Test.YtlgjlhgdpiipbaaZad
namespace Go.Proofs.Ytlgjlhgdpiipbaa
open Go.RowKit
theorem info94 : (Try.prog.info? 94).map (fun i => (i.zero, i.size, i.bytes)) = some (some (.agg #[.slice none 0 0, .int .i64 0, .int .i64 0, .bool false]), 4, 48) := by kernel_rfl
/-- So many erased pages. -/
def blankL (j : Nat) : List Value := ((List.range j).map fun _ => rep 288 255).flatMap pgL
theorem blankL_succ (j : Nat) : blankL (j + 1) = blankL j ++ pgL (rep 288 255) := by unfold blankL; rw [List.range_succ, List.map_append, List.flatMap_append]; simp
theorem blank_push {B : Nat} {W : World} {pa : Option Addr} {pc j : Nat} (ho : W.ownsRow B 48 288 (.slice pa j pc) j (blankL j)) (hB : B ≤ W.heap.size) (hj : j < 1000) (s : Nat) (hs : Box W s 48 (cellsB (rep 288 255))) :
    ∃ va vn vc w6, (Builtin.append_ #[56, 56] 56 #[.slice pa j pc, .slice (some ⟨s, 0, none⟩) 1 1]).run Try.prog W = .ok (.slice va vn vc) w6 ∧ vn = j + 1 ∧ w6.ownsRow B 48 288 (.slice va (j + 1) vc) (j + 1) (blankL (j + 1)) ∧ W.grownBy w6 (Value.slice pa j pc).ownBlock := by
  obtain ⟨i0, hi0, hz0, hz1, hz2⟩ := info_parts info48
  obtain ⟨v', w2, hr, h2, h3, _⟩ := run_append_own_at (P := Try.prog) W B 56 56 48 i0 (.agg (cellsB (rep 288 0))) 288 288 Try.underlying56 hi0 hz0 hz1 hz2 (by show (cellsB (rep 288 0)).size = 288; rw [cellsB_size, rep_len]) (by decide)
    (.slice pa j pc) j _ ho ⟨s, 0, none⟩ 1 1 (pgL (rep 288 255)) (by rw [pgL_len]) (fun x u hu => by
      rw [show (⟨s, 0, none⟩ : Addr).add x = ⟨s, x, none⟩ from by unfold Addr.add; split <;> simp_all]
      refine hs.get x u ?_
      rw [pgL_eq (rep_len _ _)] at hu
      unfold cellsB
      simpa using hu) (fun u hu => by rw [pgL_eq (rep_len _ _)] at hu; obtain ⟨y, _, rfl⟩ := List.mem_map.1 hu; rfl) (by unfold maxLen; omega) (by omega) hB
  rw [← blankL_succ] at h2
  obtain ⟨_, ⟨_, h0⟩ | ⟨g, cap, cur, rfl, _⟩⟩ := id h2
  · omega
  · exact ⟨_, _, _, w2, hr, rfl, h2, h3⟩
/-- A block's cells in the row. -/
def rnewL (p pc : Nat → Nat) (pn i : Nat) : List Value := (List.range i).flatMap fun y => [.slice (some ⟨p y, 0, none⟩) pn (pc y), .int .i64 0, .int .i64 0, .bool false]
theorem rnewL_succ (p pc : Nat → Nat) (pn i : Nat) : rnewL p pc pn (i + 1) = rnewL p pc pn i ++ [.slice (some ⟨p i, 0, none⟩) pn (pc i), .int .i64 0, .int .i64 0, .bool false] := by unfold rnewL; rw [List.range_succ, List.flatMap_append]; simp
theorem rnewL_congr {p q pc qc : Nat → Nat} {pn : Nat} : ∀ {i : Nat}, (∀ y, y < i → p y = q y ∧ pc y = qc y) → rnewL p pc pn i = rnewL q qc pn i
  | 0, _ => rfl
  | i + 1, h => by rw [rnewL_succ, rnewL_succ, rnewL_congr (i := i) (fun y hy => h y (by omega)), (h i (by omega)).1, (h i (by omega)).2]
theorem rnewL_len (p pc : Nat → Nat) (pn : Nat) : ∀ i, (rnewL p pc pn i).length = i * 4
  | 0 => rfl
  | i + 1 => by rw [rnewL_succ, List.length_append, rnewL_len p pc pn i]; simp; omega
theorem rnewL_at (p pc : Nat → Nat) (pn : Nat) : ∀ (i y : Nat), y < i → ∀ x u, ([.slice (some ⟨p y, 0, none⟩) pn (pc y), .int .i64 0, .int .i64 0, .bool false] : List Value)[x]? = some u → (rnewL p pc pn i)[y * 4 + x]? = some u
  | i + 1, y, hy, x, u, hu => by
    have hx := (List.getElem?_eq_some_iff.1 hu).1
    simp at hx
    have hl := rnewL_len p pc pn i
    rw [rnewL_succ]
    by_cases e : y = i
    · subst e
      rw [List.getElem?_append_right (by omega), hl, show y * 4 + x - y * 4 = x by omega]
      exact hu
    · rw [List.getElem?_append_left (by omega)]
      exact rnewL_at p pc pn i y (by omega) x u hu
/-- The chip under way. -/
structure RNew (w W : World) (c bn pn i : Nat) (row : Value) (p pc : Nat → Nat) : Prop where
  chip : Box W c 92 #[.int .i64 bn, .int .i64 pn, row, .slice none 0 0, .int .i64 0, .bool true]
  own : W.ownsRow w.heap.size 94 4 row i (rnewL p pc pn i)
  pages : ∀ y, y < i → W.ownsRow w.heap.size 48 288 (.slice (some ⟨p y, 0, none⟩) pn (pc y)) pn (blankL pn)
  inj : ∀ y, y < i → ∀ y', y' < i → p y = p y' → y = y'
  gec : w.heap.size ≤ c
  bel : Below w.heap.size w W
theorem RNew.below {w W W' : World} {c bn pn i : Nat} {row : Value} {p pc : Nat → Nat} (h : RNew w W c bn pn i row p pc) (hb : Below W.heap.size W W') : RNew w W' c bn pn i row p pc :=
  ⟨h.chip.below hb, own_below h.own hb, fun y hy => own_below (h.pages y hy) hb, h.inj, h.gec, h.bel.trans (hb.mono h.bel.size)⟩
/-- The block under way, in its box; its pages so far. -/
structure RBlk (wr W : World) (kb j : Nat) (pa : Option Addr) (pc : Nat) : Prop where
  box : Box W kb 94 #[.slice pa j pc, .int .i64 0, .int .i64 0, .bool false]
  own : W.ownsRow wr.heap.size 48 288 (.slice pa j pc) j (blankL j)
  ge : wr.heap.size ≤ kb
  bel : Below wr.heap.size wr W
theorem own_ne {W : World} {B : Nat} {e : TypeId} {sz n : Nat} {v : Value} {xs : List Value} (h : W.ownsRow B e sz v n xs) {b : Nat} {t : TypeId} {vs : Array Value} (hb : Box W b t vs) (hne : t ≠ e) : v.ownBlock ≠ some b := by
  intro heq
  obtain ⟨_, ⟨rfl, _⟩ | ⟨g, cap, cur, rfl, _, hh, _⟩⟩ := h
  · cases heq
  · have : g = b := by simpa [Value.ownBlock] using heq
    subst this
    have hb : W.heap[g]? = some (.cells vs t (0, 0)) := hb
    rw [hh] at hb
    cases hb
    exact hne rfl
theorem own_setc {W : World} {B : Nat} {e : TypeId} {sz n : Nat} {v : Value} {xs : List Value} (h : W.ownsRow B e sz v n xs) {b : Nat} {t : TypeId} {vs : Array Value} (hb : Box W b t vs) (hne : t ≠ e) (j : Nat) (u : Value) : (W.setCell ⟨b, j, none⟩ u).ownsRow B e sz v n xs := by
  refine h.kept (grown_set1 W b j u) ?_
  have hn := own_ne h hb hne
  obtain ⟨_, ⟨rfl, _⟩ | ⟨g, cap, cur, rfl, _⟩⟩ := id h
  · exact .inl rfl
  · right
    intro e2
    exact hn e2
/-- What a round of the inner loop needs of Blank and of the append. -/
theorem rblk_push {wr w2 : World} {kb j : Nat} {pa : Option Addr} {pc : Nat} (h : RBlk wr w2 kb j pa pc) (hj : j < 1000) (w4 : World) (h4 : Below w2.heap.size w2 w4) :
    w4.cell? ⟨kb, 0, none⟩ = some (.slice pa j pc) ∧ (w4.alloc (.cells (cellsB (rep 288 255)) 48)).cell? ⟨kb, 0, none⟩ = some (.slice pa j pc) ∧
    ∃ va vn vc w6, (Builtin.append_ #[56, 56] 56 #[.slice pa j pc, .slice (some ⟨w4.heap.size, 0, none⟩) 1 1]).run Try.prog (w4.alloc (.cells (cellsB (rep 288 255)) 48)) = .ok (.slice va vn vc) w6 ∧ vn = j + 1 ∧ w6.cell? ⟨kb, 0, none⟩ = some (.slice pa j pc) ∧ w6.frozen? ⟨kb, 0, none⟩ = false ∧
      RBlk wr (w6.setCell ⟨kb, 0, none⟩ (.slice va (j + 1) vc)) kb (j + 1) va vc := by
  have hal : Below w4.heap.size w4 (w4.alloc (.cells (cellsB (rep 288 255)) 48)) := (Below.refl _ _).alloc (Nat.le_refl _) _
  have h5 := h4.trans (hal.mono h4.size)
  have b4 := h.box.below h4
  have b5 := h.box.below h5
  have o5 := own_below h.own h5
  have hl5 := h.bel.trans (h5.mono h.bel.size)
  obtain ⟨va, vn, vc, w6, hr, hvn, o6, hg⟩ := blank_push o5 (hl5.size) hj w4.heap.size (Box.new w4 48 _)
  have b6 := b5.grown_own o5 hg (by decide)
  refine ⟨b4.get 0 _ rfl, b5.get 0 _ rfl, va, vn, vc, w6, hr, hvn, b6.get 0 _ rfl, b6.frozen 0, ?_⟩
  refine ⟨b6.set 0 _, own_setc o6 b6 (by decide) 0 _, h.ge, ?_⟩
  exact (hl5.grown hg hl5.size (fun k e => (o5.lt k e).1)).setCell (p := ⟨kb, 0, none⟩) h.ge _
/-- What a round of the outer loop needs of its append. -/
theorem rnew_push {w wr w2 : World} {c bn pn k kb : Nat} {ra pa : Option Addr} {rc pc0 : Nat} {p pc : Nat → Nat} (hS : RNew w wr c bn pn k (.slice ra k rc) p pc) (hb : RBlk wr w2 kb pn pa pc0) (hk : k < 1000) (hp : 0 < pn) {gb : Nat} {gvs : Array Value} (hgb : Box wr gb 23 gvs) :
    w2.cell? ⟨c, 2, none⟩ = some (.slice ra k rc) ∧ (w2.alloc (.cells #[.slice pa pn pc0, .int .i64 0, .int .i64 0, .bool false] 94)).cell? ⟨c, 2, none⟩ = some (.slice ra k rc) ∧
    ∃ va vn vc w6 p' pc', (Builtin.append_ #[90, 90] 90 #[.slice ra k rc, .slice (some ⟨w2.heap.size, 0, none⟩) 1 1]).run Try.prog (w2.alloc (.cells #[.slice pa pn pc0, .int .i64 0, .int .i64 0, .bool false] 94)) = .ok (.slice va vn vc) w6 ∧ vn = k + 1 ∧ w6.cell? ⟨c, 2, none⟩ = some (.slice ra k rc) ∧ w6.frozen? ⟨c, 2, none⟩ = false ∧
      Box w6 kb 94 #[.slice pa pn pc0, .int .i64 0, .int .i64 0, .bool false] ∧ Box (w6.setCell ⟨c, 2, none⟩ (.slice va (k + 1) vc)) kb 94 #[.slice pa pn pc0, .int .i64 0, .int .i64 0, .bool false] ∧
      RNew w (w6.setCell ⟨c, 2, none⟩ (.slice va (k + 1) vc)) c bn pn (k + 1) (.slice va (k + 1) vc) p' pc' ∧ Box (w6.setCell ⟨c, 2, none⟩ (.slice va (k + 1) vc)) gb 23 gvs := by
  obtain ⟨i0, hi0, hz0, hz1, hz2⟩ := info_parts info94
  have hal : Below w2.heap.size w2 (w2.alloc (.cells #[.slice pa pn pc0, .int .i64 0, .int .i64 0, .bool false] 94)) := (Below.refl _ _).alloc (Nat.le_refl _) _
  have h3 : Below wr.heap.size wr (w2.alloc (.cells #[.slice pa pn pc0, .int .i64 0, .int .i64 0, .bool false] 94)) := hb.bel.trans (hal.mono hb.bel.size)
  have hS2 := hS.below hb.bel
  have hS3 := hS.below h3
  have hg3 := hgb.below h3
  have hkb3 := hb.box.below hal
  have hpo3 := own_below hb.own hal
  have bn3 := Box.new w2 94 #[.slice pa pn pc0, .int .i64 0, .int .i64 0, .bool false]
  obtain ⟨g, hpa, hgge⟩ : ∃ g, pa = some ⟨g, 0, none⟩ ∧ wr.heap.size ≤ g := by
    obtain ⟨_, ⟨h1, h0⟩ | ⟨g, cap, cur, h1, h2, _⟩⟩ := id hpo3
    · omega
    · cases h1; exact ⟨g, rfl, h2⟩
  subst hpa
  obtain ⟨v', w6, hr, h2, h4, _⟩ := run_append_own_at (P := Try.prog) (w2.alloc (.cells #[.slice (some ⟨g, 0, none⟩) pn pc0, .int .i64 0, .int .i64 0, .bool false] 94)) w.heap.size 90 90 94 i0 (.agg #[.slice none 0 0, .int .i64 0, .int .i64 0, .bool false]) 4 48 Try.underlying90 hi0 hz0 hz1 hz2 rfl (by decide)
    (.slice ra k rc) k _ hS3.own ⟨w2.heap.size, 0, none⟩ 1 1 [.slice (some ⟨g, 0, none⟩) pn pc0, .int .i64 0, .int .i64 0, .bool false] rfl (fun x u hu => by
      rw [show (⟨w2.heap.size, 0, none⟩ : Addr).add x = ⟨w2.heap.size, x, none⟩ from by unfold Addr.add; split <;> simp_all]
      exact bn3.get x u (by simpa using hu)) (fun u hu => by simp at hu; rcases hu with rfl | rfl | rfl | rfl <;> rfl) (by unfold maxLen; omega) (by omega) hS3.bel.size
  obtain ⟨va, vc, rfl⟩ : ∃ va vc, v' = .slice va (k + 1) vc := by
    obtain ⟨_, ⟨_, h0⟩ | ⟨g, cap, cur, rfl, _⟩⟩ := id h2
    · omega
    · exact ⟨_, _, rfl⟩
  have hrow : ∀ b, (Value.slice ra k rc).ownBlock = some b → b < wr.heap.size := fun b e => (hS.own.lt b e).2
  have hc6 := hS3.chip.grown_own hS3.own h4 (by decide)
  have hkb6 := hkb3.grown h4 (fun e => by have := hrow kb e.symm; have := hb.ge; omega)
  have hgb6 := hg3.grown_own hS3.own h4 (by decide)
  have hne : kb ≠ c := fun e => by have := hS.chip.lt; have := hb.ge; omega
  have keep : ∀ {g' n' : Nat} {xs : List Value} {B : Nat} {cap : Nat}, (w2.alloc (.cells #[.slice (some ⟨g, 0, none⟩) pn pc0, .int .i64 0, .int .i64 0, .bool false] 94)).ownsRow B 48 288 (.slice (some ⟨g', 0, none⟩) n' cap) n' xs → w6.ownsRow B 48 288 (.slice (some ⟨g', 0, none⟩) n' cap) n' xs := fun ho => by
    refine ho.kept h4 (.inr ?_)
    intro e
    obtain ⟨_, ⟨h1, _⟩ | ⟨g1, cap1, cur, h1, _, hh, _⟩⟩ := ho
    · cases h1
    · cases h1
      exact own_ne hS3.own (show Box _ _ 48 cur from hh) (by decide) e.symm
  refine ⟨hS2.chip.get 2 _ rfl, hS3.chip.get 2 _ rfl, va, k + 1, vc, w6, (fun y => if y = k then g else p y), (fun y => if y = k then pc0 else pc y), hr, rfl, hc6.get 2 _ rfl, hc6.frozen 2, hkb6, hkb6.far _ _ (fun e => hne e.symm), ?_, hgb6.far _ _ (hc6.ne hgb6 (by decide))⟩
  refine ⟨hc6.set 2 _, ?_, fun y hy => ?_, fun y hy y' hy' he => ?_, hS.gec, ?_⟩
  · rw [rnewL_succ, rnewL_congr (q := p) (qc := pc) (fun y hy => by simp [show y ≠ k by omega]), if_pos rfl, if_pos rfl]
    exact own_setc h2 hc6 (by decide) 2 _
  · by_cases e : y = k
    · simp only [e, if_true]
      obtain ⟨o1, o2⟩ := own_setc (keep hpo3) hc6 (by decide) 2 (.slice va (k + 1) vc)
      refine ⟨o1, ?_⟩
      rcases o2 with ⟨h1, _⟩ | ⟨g1, cap1, cur, h1, h1', h1''⟩
      · cases h1
      · exact .inr ⟨g1, cap1, cur, h1, Nat.le_trans hS.bel.size h1', h1''⟩
    · simp only [e, if_false]
      exact own_setc (keep (hS3.pages y (by omega))) hc6 (by decide) 2 _
  · have hlt : ∀ y, y < k → p y < wr.heap.size := fun y hy => ((hS.pages y hy).lt (p y) rfl).2
    by_cases e : y = k
    · simp only [e, if_true] at he
      by_cases e' : y' = k
      · omega
      · simp only [e', if_false] at he
        have := hlt y' (by omega)
        omega
    · simp only [e, if_false] at he
      by_cases e' : y' = k
      · simp only [e', if_true] at he
        have := hlt y (by omega)
        omega
      · simp only [e', if_false] at he
        exact hS.inj y (by omega) y' (by omega) he
  · exact (hS3.bel.grown h4 hS3.bel.size (fun b e => (hS3.own.lt b e).1)).setCell (p := ⟨c, 2, none⟩) hS.gec _
end Go.Proofs.Ytlgjlhgdpiipbaa
