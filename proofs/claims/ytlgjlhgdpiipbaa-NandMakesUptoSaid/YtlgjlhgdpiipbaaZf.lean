/- The law's pages. -/
import Derived.Test.YtlgjlhgdpiipbaaZe
namespace Go.Proofs.Ytlgjlhgdpiipbaa
open Go.RowKit Go.Shelf
attribute [local go_sem] Oper.semAt_some
theorem box_walked {W W' : World} {B : Nat} {t : TypeId} {vs : Array Value} {row : Option Nat} (h : Box W B t vs) (hg : W.grownBy W' row) (hr : ∀ r, row = some r → ∃ o : Obj, W.heap[r]? = some o ∧ o.isCells = false) : Box W' B t vs :=
  h.grown hg fun e => by
    obtain ⟨o, ho, hc⟩ := hr B e.symm
    rw [show W.heap[B]? = _ from h] at ho; cases ho; cases hc
theorem own_walked {W W' : World} {B : Nat} {e : TypeId} {size n : Nat} {v : Value} {xs : List Value} {row : Option Nat} (h : W.ownsRow B e size v n xs) (hg : W.grownBy W' row) (hr : ∀ r, row = some r → ∃ o : Obj, W.heap[r]? = some o ∧ o.isCells = false) : W'.ownsRow B e size v n xs := by
  refine h.kept hg ?_
  rcases h.2 with ⟨rfl, _⟩ | ⟨g, cap, cur, rfl, _, hgb, _⟩
  · exact .inl rfl
  · refine .inr fun e' => ?_
    obtain ⟨_, ho, hc⟩ := hr g (by simpa [Value.ownBlock] using e'.symm)
    rw [hgb] at ho; cases ho; cases hc
theorem PgS.walked {w W W' : World} {m : Nat} {pre : List (List UInt8 × Nat)} {ao bo : Option Addr} {cp cq : Nat} {row : Option Nat} (h : PgS w W m pre ao cp bo cq) (hg : W.grownBy W' row) (hr : ∀ r, row = some r → w.heap.size ≤ r ∧ ∃ o : Obj, W.heap[r]? = some o ∧ o.isCells = false) : PgS w W' m pre ao cp bo cq := by
  have hr' := fun r e => (hr r e).2
  exact ⟨box_walked h.most hg hr', box_walked h.nb hg hr', box_walked h.lb hg hr', own_walked h.no hg hr', own_walked h.lo hg hr', h.le, h.bel.grown hg h.bel.size (fun r e => (hr r e).1), Nat.le_trans h.size hg.size⟩
/-- A round's two appends, and what they leave. -/
theorem PgS.round {w W : World} {m : Nat} {pre : List (List UInt8 × Nat)} {ao bo : Option Addr} {cp cq : Nat} (h : PgS w W m pre ao cp bo cq) (hl : pre.length < 100000) (hm : pre.length + 1 ≤ m) (x : List UInt8 × Nat) (Be : Nat) (hbe : Box W Be 48 (cellsB (nrm x.1))) (hBe : w.heap.size + 3 ≤ Be) :
    ∃ va vn vc w1 w2, (Builtin.append_ #[24, 24] 24 #[.slice ao pre.length cp, .slice (some ⟨W.heap.size, 0, none⟩) 1 1]).run Try.prog (W.alloc (.cells #[.int .i64 (x.2 : Nat)] 3)) = .ok (.slice va vn vc) w1 ∧
      w1.cell? ⟨w.heap.size + 1, 0, none⟩ = some (.slice ao pre.length cp) ∧ w1.frozen? ⟨w.heap.size + 1, 0, none⟩ = false ∧ w1.setCell ⟨w.heap.size + 1, 0, none⟩ (.slice va vn vc) = w2 ∧
      w2.cell? ⟨w.heap.size + 2, 0, none⟩ = some (.slice bo pre.length cq) ∧ (loadVar 48 ⟨Be, 0, none⟩).run Try.prog w2 = .ok (.agg (cellsB (nrm x.1))) w2 ∧
      ∃ vb vm vd w3 w4, (Builtin.append_ #[56, 56] 56 #[.slice bo pre.length cq, .slice (some ⟨w2.heap.size, 0, none⟩) 1 1]).run Try.prog (w2.alloc (.cells (cellsB (nrm x.1)) 48)) = .ok (.slice vb vm vd) w3 ∧
        w3.cell? ⟨w.heap.size + 2, 0, none⟩ = some (.slice bo pre.length cq) ∧ w3.frozen? ⟨w.heap.size + 2, 0, none⟩ = false ∧ w3.setCell ⟨w.heap.size + 2, 0, none⟩ (.slice vb vm vd) = w4 ∧
        PgS w w4 m (pre ++ [x]) va vc vb vd ∧ KeepsLow w.heap.size W w4 ∧ KeepsFrom (w.heap.size + 3) W w4 := by
  obtain ⟨va, vn, vc, w1, hr1, rfl, hnb1, hnb2, hno2, hmo2, hlb2, hlo2, hbel2, hbx2, hs1, hg1⟩ := h.pushN hl x.2
  have hbe2 := hbx2 Be 48 _ hbe (by decide) (by omega)
  obtain ⟨w2, hw2⟩ : ∃ w2, w1.setCell ⟨w.heap.size + 1, 0, none⟩ (.slice va (pre.length + 1) vc) = w2 := ⟨_, rfl⟩
  have hs2 : w2.heap.size = w1.heap.size := by rw [← hw2]; simp [World.setCell]
  rw [hw2] at hnb2 hno2 hmo2 hlb2 hlo2 hbel2 hbe2
  have hsz := h.size
  obtain ⟨vb, vm, vd, w3, hr3, rfl, hlb3, hlb4, hlo4, hmo4, hnb4, hno4, hbel4, hs3, hg3⟩ := pushL hmo2 hnb2 hlb2 hno2 hlo2 hbel2 (by omega) hl (nrm x.1) (nrm_len _)
  refine ⟨va, _, vc, w1, w2, hr1, hnb1.get 0 _ rfl, hnb1.frozen 0, hw2, hlb2.get 0 _ rfl, hbe2.loadPg (nrm_len _), vb, _, vd, w3, _, hr3, hlb3.get 0 _ rfl, hlb3.frozen 0, rfl, ?_, ?_, ?_⟩
  · have hs4 : (w3.setCell ⟨w.heap.size + 2, 0, none⟩ (.slice vb (pre.length + 1) vd)).heap.size = w3.heap.size := by simp [World.setCell]
    have e1 : (pre ++ [x]).length = pre.length + 1 := by simp
    refine ⟨hmo4, by rw [e1]; exact hnb4, by rw [e1]; exact hlb4, ?_, ?_, by rw [e1]; exact hm, hbel4, by rw [hs4]; omega⟩
    · rw [e1, List.map_append]; exact hno4
    · rw [e1, List.flatMap_append]
      have : [x].flatMap (fun x => pgL x.1) = (nrm x.1).map byteV := by simp [pgL_nrm]
      rw [this]; exact hlo4
  · refine ⟨by simp [World.setCell]; omega, fun k o hk ho hc => ?_⟩
    have hk1 : k < W.heap.size := (Array.getElem?_eq_some_iff.1 ho).1
    rw [Below.heap_setCell w3 ⟨w.heap.size + 2, 0, none⟩ _ k (by simp; omega), hg3.block k (by rw [World.size_alloc]; omega) (fun e => by have := (hlo2.lt k e.symm).1; omega), Below.heap_alloc w2 _ k (by omega), ← hw2,
      Below.heap_setCell w1 ⟨w.heap.size + 1, 0, none⟩ _ k (by simp; omega), hg1.block k (by rw [World.size_alloc]; omega) (fun e => by have := (h.no.lt k e.symm).1; omega), Below.heap_alloc W _ k hk1]
    exact ho
  · refine ⟨by simp [World.setCell]; omega, fun k o hk ho hc => ?_⟩
    have hk1 : k < W.heap.size := (Array.getElem?_eq_some_iff.1 ho).1
    have n1 : some k ≠ (Value.slice ao pre.length cp).ownBlock := by
      intro e'
      rcases h.no.2 with ⟨h0, _⟩ | ⟨g, cap, cur, h0, _, hgb, _⟩
      · rw [h0] at e'; simp [Value.ownBlock] at e'
      · rw [h0] at e'
        have : k = g := by simpa [Value.ownBlock] using e'
        subst this; rw [hgb] at ho; cases ho; cases hc
    have n3 : some k ≠ (Value.slice bo pre.length cq).ownBlock := by
      intro e'
      rcases h.lo.2 with ⟨h0, _⟩ | ⟨g, cap, cur, h0, _, hgb, _⟩
      · rw [h0] at e'; simp [Value.ownBlock] at e'
      · rw [h0] at e'
        have : k = g := by simpa [Value.ownBlock] using e'
        subst this; rw [hgb] at ho; cases ho; cases hc
    rw [Below.heap_setCell w3 ⟨w.heap.size + 2, 0, none⟩ _ k (by simp; omega), hg3.block k (by rw [World.size_alloc]; omega) n3, Below.heap_alloc w2 _ k (by omega), ← hw2,
      Below.heap_setCell w1 ⟨w.heap.size + 1, 0, none⟩ _ k (by simp; omega), hg1.block k (by rw [World.size_alloc]; omega) n1, Below.heap_alloc W _ k hk1]
    exact ho
/-- Between two rounds; at 'no more'. -/
def PgI (w : World) (m : Nat) (pre : List (List UInt8 × Nat)) (W : World) : Prop := ∃ ao cp bo cq, PgS w W m pre ao cp bo cq
def PgX (w : World) (m : Nat) (c : Code) (pre : List (List UInt8 × Nat)) (W : World) : Prop := c = .exit 0 ∧ ∃ L ao cp bo cq, L <+: pre ∧ L.length = m ∧ PgS w W m L ao cp bo cq
theorem pgI_own (w : World) (m : Nat) (B : Nat) (hB : w.heap.size ≤ B) : OwnFrom B (PgI w m) := by
  rintro pre W W' row ⟨ao, cp, bo, cq, h⟩ hg hr
  exact ⟨ao, cp, bo, cq, h.walked hg (fun r e => ⟨Nat.le_trans hB (hr r e).1, (hr r e).2⟩)⟩
theorem pgX_own (w : World) (m : Nat) (c : Code) (B : Nat) (hB : w.heap.size ≤ B) : OwnFrom B (PgX w m c) := by
  rintro pre W W' row ⟨h0, L, ao, cp, bo, cq, h1, h2, h⟩ hg hr
  exact ⟨h0, L, ao, cp, bo, cq, h1, h2, h.walked hg (fun r e => ⟨Nat.le_trans hB (hr r e).1, (hr r e).2⟩)⟩
/-- slices.All hands back a value that gives the pages with their numbers, or a part of them where a round has said 'no more'. -/
theorem all_stops (n : Nat) (hn : 1 ≤ n) (Bl B : Nat) (ps : List (List UInt8)) (la : Option Addr) (lc : Nat) (h32 : ps.length ≤ 32) (w : World) (hBl : Bl < w.heap.size) (hc : w.cell? ⟨Bl, 0, none⟩ = some (.slice la ps.length lc))
    (hrd : RdC pgL 288 w (.slice la ps.length lc) ps) (hla : ∀ b o, la = some ⟨b, o, none⟩ → b < B) :
    SeqStopsK Fence.wide n Try.prog 55 #[.pointer (some ⟨Bl, 0, none⟩)] (fun x : List UInt8 × Nat => #[.int .i64 (x.2 : Nat), pgV (nrm x.1)]) (KeepsLow B) (fun ys => ys = ps.zipIdx) (fun pre => pre <+: ps.zipIdx) 600 w := fun
  l J Jx W hW hJ _ hY h0J => all1_in n hn l Bl B w ps la lc h32 J Jx (fun pre W W' h hb => hJ pre W W' none h (grown_below hb) (fun r e => by cases e)) hY W ((hW.cell (p := ⟨Bl, 0, none⟩) hBl).trans hc) hW (hrd.below hW) hla h0J
end Go.Proofs.Ytlgjlhgdpiipbaa
