import Derived.Test.YtlgjlhgdpiipbaaMai
import Derived.Test.YtlgjlhgdpiipbaaMag
/- The law's pages: between two rounds; a round's two appends. -/
namespace Go.Proofs.Ytlgjlhgdpiipbaa
open Go.RowKit Go.Shelf
/-- Own rows of other elements lie elsewhere. -/
theorem own_other {W W' : World} {B B2 : Nat} {e e2 : TypeId} {s s2 n n2 : Nat} {v v2 : Value} {xs xs2 : List Value} (h : W.ownsRow B e s v n xs) (h2 : W.ownsRow B2 e2 s2 v2 n2 xs2) (hne : e ≠ e2) (hg : W.grownBy W' v2.ownBlock) : W'.ownsRow B e s v n xs := by
  refine h.kept hg ?_
  obtain ⟨_, ⟨rfl, _⟩ | ⟨g, cap, cur, rfl, _, hh, _⟩⟩ := h
  · exact .inl rfl
  · right
    intro e0
    obtain ⟨_, ⟨rfl, _⟩ | ⟨g2, cap2, cur2, rfl, _, hh2, _⟩⟩ := h2
    · simp [Value.ownBlock] at e0
    · have : g = g2 := by simpa [Value.ownBlock] using e0
      subst this
      rw [hh] at hh2
      cases hh2
      exact hne rfl
theorem own_set {W : World} {B : Nat} {e : TypeId} {s n : Nat} {v : Value} {xs : List Value} (h : W.ownsRow B e s v n xs) (b j : Nat) (u : Value) (hb : b < B) : (W.setCell ⟨b, j, none⟩ u).ownsRow B e s v n xs := by
  refine h.kept (grown_set1 W b j u) ?_
  have h' := h
  obtain ⟨_, ⟨rfl, _⟩ | ⟨g, cap, cur, rfl, hg, _⟩⟩ := h
  · exact .inl rfl
  · right
    intro e0
    have : g = b := by simpa [Value.ownBlock] using e0
    omega
/-- Between two rounds of the law's pages: the indices and the pages so far. -/
structure PgS (w W : World) (m : Nat) (pre : List (List UInt8 × Nat)) (ao : Option Addr) (cp : Nat) (bo : Option Addr) (cq : Nat) : Prop where
  most : Box W w.heap.size 3 #[.int .i64 m]
  nb : Box W (w.heap.size + 1) 24 #[.slice ao pre.length cp]
  lb : Box W (w.heap.size + 2) 56 #[.slice bo pre.length cq]
  no : W.ownsRow (w.heap.size + 3) 3 1 (.slice ao pre.length cp) pre.length (pre.map fun x => .int .i64 (x.2 : Nat))
  lo : W.ownsRow (w.heap.size + 3) 48 288 (.slice bo pre.length cq) pre.length (pre.flatMap fun x => pgL x.1)
  le : pre.length ≤ m
  bel : Below w.heap.size w W
  size : w.heap.size + 3 ≤ W.heap.size
theorem PgS.below {w W W' : World} {m : Nat} {pre : List (List UInt8 × Nat)} {ao bo : Option Addr} {cp cq : Nat} (h : PgS w W m pre ao cp bo cq) (hb : Below W.heap.size W W') : PgS w W' m pre ao cp bo cq :=
  ⟨h.most.below hb, h.nb.below hb, h.lb.below hb, own_below h.no hb, own_below h.lo hb, h.le, h.bel.trans (hb.mono h.bel.size), Nat.le_trans h.size hb.size⟩
/-- The first append. -/
theorem PgS.pushN {w W : World} {m : Nat} {pre : List (List UInt8 × Nat)} {ao bo : Option Addr} {cp cq : Nat} (h : PgS w W m pre ao cp bo cq) (hl : pre.length < 100000) (i : Nat) :
    ∃ va vn vc w1, (Builtin.append_ #[24, 24] 24 #[.slice ao pre.length cp, .slice (some ⟨W.heap.size, 0, none⟩) 1 1]).run Try.prog (W.alloc (.cells #[.int .i64 (i : Nat)] 3)) = .ok (.slice va vn vc) w1 ∧ vn = pre.length + 1 ∧
      Box w1 (w.heap.size + 1) 24 #[.slice ao pre.length cp] ∧ Box (w1.setCell ⟨w.heap.size + 1, 0, none⟩ (.slice va vn vc)) (w.heap.size + 1) 24 #[.slice va (pre.length + 1) vc] ∧
      (w1.setCell ⟨w.heap.size + 1, 0, none⟩ (.slice va vn vc)).ownsRow (w.heap.size + 3) 3 1 (.slice va (pre.length + 1) vc) (pre.length + 1) ((pre.map fun x => (Value.int .i64 (x.2 : Nat))) ++ [.int .i64 (i : Nat)]) ∧
      Box (w1.setCell ⟨w.heap.size + 1, 0, none⟩ (.slice va vn vc)) w.heap.size 3 #[.int .i64 m] ∧ Box (w1.setCell ⟨w.heap.size + 1, 0, none⟩ (.slice va vn vc)) (w.heap.size + 2) 56 #[.slice bo pre.length cq] ∧
      (w1.setCell ⟨w.heap.size + 1, 0, none⟩ (.slice va vn vc)).ownsRow (w.heap.size + 3) 48 288 (.slice bo pre.length cq) pre.length (pre.flatMap fun x => pgL x.1) ∧
      Below w.heap.size w (w1.setCell ⟨w.heap.size + 1, 0, none⟩ (.slice va vn vc)) ∧ (∀ b t vs, Box W b t vs → t ≠ 3 → b ≠ w.heap.size + 1 → Box (w1.setCell ⟨w.heap.size + 1, 0, none⟩ (.slice va vn vc)) b t vs) ∧ W.heap.size < w1.heap.size ∧ (W.alloc (.cells #[.int .i64 (i : Nat)] 3)).grownBy w1 (Value.slice ao pre.length cp).ownBlock := by
  obtain ⟨i0, hi0, hz0, hz1, hz2⟩ := info_parts info3
  have hal := (Below.refl W.heap.size W).alloc (Nat.le_refl _) (.cells #[.int .i64 (i : Nat)] 3)
  have h1 := h.below hal
  have bx := Box.new W 3 #[.int .i64 (i : Nat)]
  have hsz := h.size
  obtain ⟨v', w1, hr, h2, h3, _, _⟩ := run_append_own_at (P := Try.prog) (W.alloc (.cells #[.int .i64 (i : Nat)] 3)) (w.heap.size + 3) 24 24 3 i0 (.int .i64 0) 1 8 Try.underlying24 hi0 hz0 hz1 hz2 rfl (by decide)
    (.slice ao pre.length cp) pre.length _ h1.no ⟨W.heap.size, 0, none⟩ 1 1 [.int .i64 (i : Nat)] rfl (fun j u hu => by
      match j, hu with
      | 0, hu =>
        simp at hu; subst hu
        rw [show (⟨W.heap.size, 0, none⟩ : Addr).add 0 = ⟨W.heap.size, 0, none⟩ from by simp [Addr.add]]
        exact bx.get 0 _ rfl) (fun u hu => by simp at hu; subst hu; rfl) (by unfold maxLen; omega) (by omega) (by rw [World.size_alloc]; omega)
  have hnb := h1.nb.grown_own h1.no h3 (by decide)
  have hlb := h1.lb.grown_own h1.no h3 (by decide)
  have hmo : Box w1 w.heap.size 3 #[.int .i64 m] := h1.most.grown h3 (fun e => by have := (h1.no.lt _ e.symm).1; omega)
  have hlo := own_other h1.lo h1.no (by decide) h3
  have hs1 := h3.size
  rw [World.size_alloc] at hs1
  obtain ⟨_, ⟨_, h0⟩ | ⟨g, cap, cur, rfl, _⟩⟩ := id h2
  · omega
  · refine ⟨_, _, _, w1, hr, rfl, hnb, hnb.set 0 _, own_set h2 _ _ _ (by omega), hmo.far _ _ (by simp), hlb.far _ _ (by simp), own_set hlo _ _ _ (by omega), ?_, fun b t vs hb ht hne => ?_, by omega, h3⟩
    · exact (h1.bel.grown h3 h1.bel.size (fun b hb => by have := (h1.no.lt b hb).1; omega)).setCell (p := ⟨w.heap.size + 1, 0, none⟩) (by simp) _
    · exact ((hb.below hal).grown_own h1.no h3 ht).far _ _ (Ne.symm hne)
/-- The second append. -/
theorem pushL {w W : World} {m k : Nat} {ns : List Value} {ys : List Value} {va bo : Option Addr} {vc cq : Nat} (hmo : Box W w.heap.size 3 #[.int .i64 m]) (hnb : Box W (w.heap.size + 1) 24 #[.slice va (k + 1) vc]) (hlb : Box W (w.heap.size + 2) 56 #[.slice bo k cq])
    (hno : W.ownsRow (w.heap.size + 3) 3 1 (.slice va (k + 1) vc) (k + 1) ns) (hlo : W.ownsRow (w.heap.size + 3) 48 288 (.slice bo k cq) k ys) (hbel : Below w.heap.size w W) (hsz : w.heap.size + 3 ≤ W.heap.size) (hl : k < 100000) (p : List UInt8) (hp : p.length = 288) :
    ∃ vb vm vd w3, (Builtin.append_ #[56, 56] 56 #[.slice bo k cq, .slice (some ⟨W.heap.size, 0, none⟩) 1 1]).run Try.prog (W.alloc (.cells (cellsB p) 48)) = .ok (.slice vb vm vd) w3 ∧ vm = k + 1 ∧ Box w3 (w.heap.size + 2) 56 #[.slice bo k cq] ∧
      Box (w3.setCell ⟨w.heap.size + 2, 0, none⟩ (.slice vb vm vd)) (w.heap.size + 2) 56 #[.slice vb (k + 1) vd] ∧ (w3.setCell ⟨w.heap.size + 2, 0, none⟩ (.slice vb vm vd)).ownsRow (w.heap.size + 3) 48 288 (.slice vb (k + 1) vd) (k + 1) (ys ++ p.map byteV) ∧
      Box (w3.setCell ⟨w.heap.size + 2, 0, none⟩ (.slice vb vm vd)) w.heap.size 3 #[.int .i64 m] ∧ Box (w3.setCell ⟨w.heap.size + 2, 0, none⟩ (.slice vb vm vd)) (w.heap.size + 1) 24 #[.slice va (k + 1) vc] ∧
      (w3.setCell ⟨w.heap.size + 2, 0, none⟩ (.slice vb vm vd)).ownsRow (w.heap.size + 3) 3 1 (.slice va (k + 1) vc) (k + 1) ns ∧ Below w.heap.size w (w3.setCell ⟨w.heap.size + 2, 0, none⟩ (.slice vb vm vd)) ∧ W.heap.size < w3.heap.size ∧ (W.alloc (.cells (cellsB p) 48)).grownBy w3 (Value.slice bo k cq).ownBlock := by
  obtain ⟨i0, hi0, hz0, hz1, hz2⟩ := info_parts info48
  have hal := (Below.refl W.heap.size W).alloc (Nat.le_refl _) (.cells (cellsB p) 48)
  have bx := Box.new W 48 (cellsB p)
  have hlo1 := own_below hlo hal
  have hno1 := own_below hno hal
  obtain ⟨v', w3, hr, h2, h3, _, _⟩ := run_append_own_at (P := Try.prog) (W.alloc (.cells (cellsB p) 48)) (w.heap.size + 3) 56 56 48 i0 (.agg (cellsB (rep 288 0))) 288 288 Try.underlying56 hi0 hz0 hz1 hz2 (by show (cellsB (rep 288 0)).size = 288; rw [cellsB_size, rep_len]) (by decide)
    (.slice bo k cq) k ys hlo1 ⟨W.heap.size, 0, none⟩ 1 1 (p.map byteV) (by rw [List.length_map, hp]) (fun j u hu => by
      rw [show (⟨W.heap.size, 0, none⟩ : Addr).add j = ⟨W.heap.size, j, none⟩ from by unfold Addr.add; split <;> simp_all]
      refine bx.get j u ?_
      unfold cellsB
      simpa using hu) (fun u hu => by obtain ⟨y, _, rfl⟩ := List.mem_map.1 hu; rfl) (by unfold maxLen; omega) (by omega) (by rw [World.size_alloc]; omega)
  have hbl1 := hbel.trans (hal.mono hbel.size)
  have hmo3 := (hmo.below hal).grown_own hlo1 h3 (by decide)
  have hnb3 := (hnb.below hal).grown_own hlo1 h3 (by decide)
  have hlb3 := (hlb.below hal).grown_own hlo1 h3 (by decide)
  have hno3 := own_other hno1 hlo1 (by decide) h3
  have hs1 := h3.size
  rw [World.size_alloc] at hs1
  obtain ⟨_, ⟨_, h0⟩ | ⟨g, cap, cur, rfl, _⟩⟩ := id h2
  · omega
  · refine ⟨_, _, _, w3, hr, rfl, hlb3, hlb3.set 0 _, own_set h2 _ _ _ (by omega), hmo3.far _ _ (by simp), hnb3.far _ _ (by simp), own_set hno3 _ _ _ (by omega), ?_, by omega, h3⟩
    exact (hbl1.grown h3 hbl1.size (fun b hb => by have := (hlo1.lt b hb).1; omega)).setCell (p := ⟨w.heap.size + 2, 0, none⟩) (by simp) _
end Go.Proofs.Ytlgjlhgdpiipbaa
/- The law's pages. -/
namespace Go.Proofs.Ytlgjlhgdpiipbaa
open Go.RowKit Go.Shelf
attribute [local go_sem] Oper.semAt_some
theorem box_walked {W W' : World} {B : Nat} {t : TypeId} {vs : Array Value} {row : Option Nat} (h : Box W B t vs) (hg : W.grownBy W' row) (hr : ∀ r, row = some r → ∃ o : Obj, W.heap[r]? = some o ∧ o.isCells = false) : Box W' B t vs :=
  h.grown hg fun e => by
    obtain ⟨o, ho, hc⟩ := hr B e.symm
    rw [show W.heap[B]? = _ from h] at ho; cases ho; cases hc
theorem own_walked {W W' : World} {B : Nat} {e : TypeId} {size n : Nat} {v : Value} {xs : List Value} {row : Option Nat} (h : W.ownsRow B e size v n xs) (hg : W.grownBy W' row) (hr : ∀ r, row = some r → ∃ o : Obj, W.heap[r]? = some o ∧ o.isCells = false) : W'.ownsRow B e size v n xs := by
  refine h.kept hg ?_
  rcases h.2 with ⟨rfl, _⟩ | ⟨g, cap, cur, rfl, _, hgb, _⟩
  · exact .inl rfl
  · refine .inr fun e' => ?_
    obtain ⟨_, ho, hc⟩ := hr g (by simpa [Value.ownBlock] using e'.symm)
    rw [hgb] at ho; cases ho; cases hc
theorem PgS.walked {w W W' : World} {m : Nat} {pre : List (List UInt8 × Nat)} {ao bo : Option Addr} {cp cq : Nat} {row : Option Nat} (h : PgS w W m pre ao cp bo cq) (hg : W.grownBy W' row) (hr : ∀ r, row = some r → w.heap.size ≤ r ∧ ∃ o : Obj, W.heap[r]? = some o ∧ o.isCells = false) : PgS w W' m pre ao cp bo cq := by
  have hr' := fun r e => (hr r e).2
  exact ⟨box_walked h.most hg hr', box_walked h.nb hg hr', box_walked h.lb hg hr', own_walked h.no hg hr', own_walked h.lo hg hr', h.le, h.bel.grown hg h.bel.size (fun r e => (hr r e).1), Nat.le_trans h.size hg.size⟩
/-- A round's two appends, and what they leave. -/
theorem PgS.round {w W : World} {m : Nat} {pre : List (List UInt8 × Nat)} {ao bo : Option Addr} {cp cq : Nat} (h : PgS w W m pre ao cp bo cq) (hl : pre.length < 100000) (hm : pre.length + 1 ≤ m) (x : List UInt8 × Nat) (Be : Nat) (hbe : Box W Be 48 (cellsB (nrm x.1))) (hBe : w.heap.size + 3 ≤ Be) :
    ∃ va vn vc w1 w2, (Builtin.append_ #[24, 24] 24 #[.slice ao pre.length cp, .slice (some ⟨W.heap.size, 0, none⟩) 1 1]).run Try.prog (W.alloc (.cells #[.int .i64 (x.2 : Nat)] 3)) = .ok (.slice va vn vc) w1 ∧
      w1.cell? ⟨w.heap.size + 1, 0, none⟩ = some (.slice ao pre.length cp) ∧ w1.frozen? ⟨w.heap.size + 1, 0, none⟩ = false ∧ w1.setCell ⟨w.heap.size + 1, 0, none⟩ (.slice va vn vc) = w2 ∧
      w2.cell? ⟨w.heap.size + 2, 0, none⟩ = some (.slice bo pre.length cq) ∧ (loadVar 48 ⟨Be, 0, none⟩).run Try.prog w2 = .ok (.agg (cellsB (nrm x.1))) w2 ∧
      ∃ vb vm vd w3 w4, (Builtin.append_ #[56, 56] 56 #[.slice bo pre.length cq, .slice (some ⟨w2.heap.size, 0, none⟩) 1 1]).run Try.prog (w2.alloc (.cells (cellsB (nrm x.1)) 48)) = .ok (.slice vb vm vd) w3 ∧
        w3.cell? ⟨w.heap.size + 2, 0, none⟩ = some (.slice bo pre.length cq) ∧ w3.frozen? ⟨w.heap.size + 2, 0, none⟩ = false ∧ w3.setCell ⟨w.heap.size + 2, 0, none⟩ (.slice vb vm vd) = w4 ∧
        PgS w w4 m (pre ++ [x]) va vc vb vd ∧ KeepsLow w.heap.size W w4 ∧ KeepsFrom (w.heap.size + 3) W w4 := by
  obtain ⟨va, vn, vc, w1, hr1, rfl, hnb1, hnb2, hno2, hmo2, hlb2, hlo2, hbel2, hbx2, hs1, hg1⟩ := h.pushN hl x.2
  have hbe2 := hbx2 Be 48 _ hbe (by decide) (by omega)
  obtain ⟨w2, hw2⟩ : ∃ w2, w1.setCell ⟨w.heap.size + 1, 0, none⟩ (.slice va (pre.length + 1) vc) = w2 := ⟨_, rfl⟩
  have hs2 : w2.heap.size = w1.heap.size := by rw [← hw2]; simp [World.setCell]
  rw [hw2] at hnb2 hno2 hmo2 hlb2 hlo2 hbel2 hbe2
  have hsz := h.size
  obtain ⟨vb, vm, vd, w3, hr3, rfl, hlb3, hlb4, hlo4, hmo4, hnb4, hno4, hbel4, hs3, hg3⟩ := pushL hmo2 hnb2 hlb2 hno2 hlo2 hbel2 (by omega) hl (nrm x.1) (nrm_len _)
  refine ⟨va, _, vc, w1, w2, hr1, hnb1.get 0 _ rfl, hnb1.frozen 0, hw2, hlb2.get 0 _ rfl, hbe2.loadPg (nrm_len _), vb, _, vd, w3, _, hr3, hlb3.get 0 _ rfl, hlb3.frozen 0, rfl, ?_, ?_, ?_⟩
  · have hs4 : (w3.setCell ⟨w.heap.size + 2, 0, none⟩ (.slice vb (pre.length + 1) vd)).heap.size = w3.heap.size := by simp [World.setCell]
    have e1 : (pre ++ [x]).length = pre.length + 1 := by simp
    refine ⟨hmo4, by rw [e1]; exact hnb4, by rw [e1]; exact hlb4, ?_, ?_, by rw [e1]; exact hm, hbel4, by rw [hs4]; omega⟩
    · rw [e1, List.map_append]; exact hno4
    · rw [e1, List.flatMap_append]
      have : [x].flatMap (fun x => pgL x.1) = (nrm x.1).map byteV := by simp [pgL_nrm]
      rw [this]; exact hlo4
  · refine ⟨by simp [World.setCell]; omega, fun k o hk ho hc => ?_⟩
    have hk1 : k < W.heap.size := (Array.getElem?_eq_some_iff.1 ho).1
    rw [Below.heap_setCell w3 ⟨w.heap.size + 2, 0, none⟩ _ k (by simp; omega), hg3.block k (by rw [World.size_alloc]; omega) (fun e => by have := (hlo2.lt k e.symm).1; omega), Below.heap_alloc w2 _ k (by omega), ← hw2,
      Below.heap_setCell w1 ⟨w.heap.size + 1, 0, none⟩ _ k (by simp; omega), hg1.block k (by rw [World.size_alloc]; omega) (fun e => by have := (h.no.lt k e.symm).1; omega), Below.heap_alloc W _ k hk1]
    exact ho
  · refine ⟨by simp [World.setCell]; omega, fun k o hk ho hc => ?_⟩
    have hk1 : k < W.heap.size := (Array.getElem?_eq_some_iff.1 ho).1
    have n1 : some k ≠ (Value.slice ao pre.length cp).ownBlock := by
      intro e'
      rcases h.no.2 with ⟨h0, _⟩ | ⟨g, cap, cur, h0, _, hgb, _⟩
      · rw [h0] at e'; simp [Value.ownBlock] at e'
      · rw [h0] at e'
        have : k = g := by simpa [Value.ownBlock] using e'
        subst this; rw [hgb] at ho; cases ho; cases hc
    have n3 : some k ≠ (Value.slice bo pre.length cq).ownBlock := by
      intro e'
      rcases h.lo.2 with ⟨h0, _⟩ | ⟨g, cap, cur, h0, _, hgb, _⟩
      · rw [h0] at e'; simp [Value.ownBlock] at e'
      · rw [h0] at e'
        have : k = g := by simpa [Value.ownBlock] using e'
        subst this; rw [hgb] at ho; cases ho; cases hc
    rw [Below.heap_setCell w3 ⟨w.heap.size + 2, 0, none⟩ _ k (by simp; omega), hg3.block k (by rw [World.size_alloc]; omega) n3, Below.heap_alloc w2 _ k (by omega), ← hw2,
      Below.heap_setCell w1 ⟨w.heap.size + 1, 0, none⟩ _ k (by simp; omega), hg1.block k (by rw [World.size_alloc]; omega) n1, Below.heap_alloc W _ k hk1]
    exact ho
/-- Between two rounds; at 'no more'. -/
def PgI (w : World) (m : Nat) (pre : List (List UInt8 × Nat)) (W : World) : Prop := ∃ ao cp bo cq, PgS w W m pre ao cp bo cq
def PgX (w : World) (m : Nat) (c : Code) (pre : List (List UInt8 × Nat)) (W : World) : Prop := c = .exit 0 ∧ ∃ L ao cp bo cq, L <+: pre ∧ L.length = m ∧ PgS w W m L ao cp bo cq
theorem pgI_own (w : World) (m : Nat) (B : Nat) (hB : w.heap.size ≤ B) : OwnFrom B (PgI w m) := by
  rintro pre W W' row ⟨ao, cp, bo, cq, h⟩ hg hr
  exact ⟨ao, cp, bo, cq, h.walked hg (fun r e => ⟨Nat.le_trans hB (hr r e).1, (hr r e).2⟩)⟩
theorem pgX_own (w : World) (m : Nat) (c : Code) (B : Nat) (hB : w.heap.size ≤ B) : OwnFrom B (PgX w m c) := by
  rintro pre W W' row ⟨h0, L, ao, cp, bo, cq, h1, h2, h⟩ hg hr
  exact ⟨h0, L, ao, cp, bo, cq, h1, h2, h.walked hg (fun r e => ⟨Nat.le_trans hB (hr r e).1, (hr r e).2⟩)⟩
/-- slices.All hands back a value that gives the pages with their numbers, or a part of them where a round has said 'no more'. -/
theorem all_stops (n : Nat) (hn : 1 ≤ n) (Bl B : Nat) (ps : List (List UInt8)) (la : Option Addr) (lc : Nat) (h32 : ps.length ≤ 32) (w : World) (hBl : Bl < w.heap.size) (hc : w.cell? ⟨Bl, 0, none⟩ = some (.slice la ps.length lc))
    (hrd : RdC pgL 288 w (.slice la ps.length lc) ps) (hla : ∀ b o, la = some ⟨b, o, none⟩ → b < B) :
    SeqStopsK Fence.wide n Try.prog 55 #[.pointer (some ⟨Bl, 0, none⟩)] (fun x : List UInt8 × Nat => #[.int .i64 (x.2 : Nat), pgV (nrm x.1)]) (KeepsLow B) (fun ys => ys = ps.zipIdx) (fun pre => pre <+: ps.zipIdx) 600 w := fun
  l J Jx W hW hJ _ hY h0J => all1_in n hn l Bl B w ps la lc h32 J Jx (fun pre W W' h hb => hJ pre W W' none h (grown_below hb) (fun r e => by cases e)) hY W ((hW.cell (p := ⟨Bl, 0, none⟩) hBl).trans hc) hW (hrd.below hW) hla h0J
end Go.Proofs.Ytlgjlhgdpiipbaa
/- The law's pages: the walk. -/
namespace Go.Proofs.Ytlgjlhgdpiipbaa
open Go.RowKit Go.Shelf
attribute [local go_sem] Oper.semAt_some
theorem own_mono {W : World} {B B' : Nat} {e : TypeId} {size n : Nat} {v : Value} {xs : List Value} (h : W.ownsRow B e size v n xs) (hb : B' ≤ B) : W.ownsRow B' e size v n xs := by
  refine ⟨h.1, ?_⟩
  rcases h.2 with h0 | ⟨g, cap, cur, h1, h2, h3⟩
  · exact .inl h0
  · exact .inr ⟨g, cap, cur, h1, Nat.le_trans hb h2, h3⟩
/-- Numbers and pages, of the call's own. -/
def PgsRes (xs : List (List UInt8 × Nat)) (w : World) (e : Ending) (w' : World) : Prop :=
  ∃ ao cp bo cq, e = .returned (.tuple #[.slice ao xs.length cp, .slice bo xs.length cq]) ∧ w'.ownsRow w.heap.size 3 1 (.slice ao xs.length cp) xs.length (xs.map fun x => .int .i64 (x.2 : Nat)) ∧
    w'.ownsRow w.heap.size 48 288 (.slice bo xs.length cq) xs.length (xs.flatMap fun x => pgL x.1) ∧ Below w.heap.size w w'
theorem keepsFrom_below {B : Nat} {W W' : World} (h : Below W.heap.size W W') : KeepsFrom B W W' := ⟨h.size, fun k _ _ hk _ => (h.block k (Array.getElem?_eq_some_iff.1 hk).1).trans hk⟩
set_option maxRecDepth 100000 in
set_option maxHeartbeats 4000000 in
theorem pages21_any (Bl : Nat) (ps : List (List UInt8)) (la : Option Addr) (lc m : Nat) (h32 : ps.length ≤ 32) (w : World) (hbx : Box w Bl 56 #[.slice la ps.length lc]) (hrd : RdC pgL 288 w (.slice la ps.length lc) ps) (hla : ∀ b o, la = some ⟨b, o, none⟩ → b < w.heap.size) (hm : m ≤ 1000000) :
    Calls Try.prog 21 #[.func (.func 55) #[] #[.pointer (some ⟨Bl, 0, none⟩)], .int .i64 m] w (PgsRes (ps.zipIdx.take m) w) := by
  refine (callsIn_wide (n := 3)).1 ?_
  have hfn : ∀ (a : Addr) (W : World), (binOp .eql 60 (.func (.func 55) #[] #[.pointer (some a)]) .nilFunc).run Try.prog W = .ok (.bool false) W := fun _ _ => by kernel_rfl
  obtain ⟨W0, hW0⟩ : ∃ W0, ((w.alloc (.cells #[.int .i64 m] 3)).alloc (.cells #[.slice none 0 0] 24)).alloc (.cells #[.slice none 0 0] 56) = W0 := ⟨_, rfl⟩
  refine callsIn_of_wp_marks Try.func21 rfl trivial ?_ rfl
  simp only [Try.ntmps21, List.size_toArray, List.length_cons, List.length_nil, Nat.reduceAdd, Nat.reduceSub, Array.replicate_succ, Array.replicate_zero, List.push_toArray, List.append_toArray, List.nil_append, List.cons_append]
  have b0 : Box W0 w.heap.size 3 #[.int .i64 m] := by rw [← hW0]; exact ((Box.new w 3 #[.int .i64 m]).alloc _).alloc _
  have b1 : Box W0 (w.heap.size + 1) 24 #[.slice none 0 0] := by
    have := (Box.new (w.alloc (.cells #[.int .i64 m] 3)) 24 #[.slice none 0 0]).alloc (.cells #[.slice none 0 0] 56)
    rw [World.size_alloc, hW0] at this; exact this
  have b2 : Box W0 (w.heap.size + 2) 56 #[.slice none 0 0] := by
    have := Box.new ((w.alloc (.cells #[.int .i64 m] 3)).alloc (.cells #[.slice none 0 0] 24)) 56 #[.slice none 0 0]
    rw [World.size_alloc, World.size_alloc, hW0] at this; exact this
  have hBl : Below w.heap.size w W0 := by
    rw [← hW0]
    exact (((Below.refl _ w).alloc (Nat.le_refl _) _).alloc (by rw [World.size_alloc]; omega) _).alloc (by rw [World.size_alloc, World.size_alloc]; omega) _
  gi_wp2
  clear hW0
  have hsz := hBl.size
  have hsz3 : w.heap.size + 3 ≤ W0.heap.size := b2.lt
  have hlb := hbx.lt
  refine wpIn_rangeFunc_ownH rfl (by decide) (gf := 55) (lb := #[.pointer (some ⟨Bl, 0, none⟩)]) rfl trivial (enters_of Try.func55 (by kernel_rfl) rfl)
    (all_stops (3 - 1) (by decide) Bl w.heap.size ps la lc h32 W0 (by omega) ((hbx.below hBl).get 0 _ rfl) (hrd.below hBl) hla) (fun h k => KeepsLow.trans h k) (fun W l o o' hl h1 h2 _ => KeepsLow.put h1 h2) (Below.refl _ _) (fun _ => rfl)
    (PgI w m) (PgX w m) (pgI_own w m _ hsz) (fun c => pgX_own w m c _ hsz)
    ⟨none, 0, none, 0, b0, b1, b2, World.ownsRow_nil _ _ _ _, World.ownsRow_nil _ _ _ _, Nat.zero_le _, hBl, hsz3⟩
    (fun x a' W => ∃ Be, Box W Be 48 (cellsB (nrm x.1)) ∧ w.heap.size + 3 ≤ Be ∧ a' = { tmps := #[.func (.func 55) #[] #[.pointer (some ⟨Bl, 0, none⟩)], .int .i64 m, undef, .pointer (some ⟨w.heap.size, 0, none⟩), .slice none 0 0, .slice none 0 0, .pointer (some ⟨w.heap.size + 1, 0, none⟩), .pointer (some ⟨w.heap.size + 2, 0, none⟩), .int .i64 (x.2 : Nat), .pointer (some ⟨Be, 0, none⟩), .func (.func 55) #[] #[.pointer (some ⟨Bl, 0, none⟩)], .bool false, .func (.func 55) #[] #[.pointer (some ⟨Bl, 0, none⟩)], .int .i64 (x.2 : Nat), pgV (nrm x.1), undef, undef, undef, undef, undef, undef, undef, undef, undef, undef, undef, undef, undef, undef], defers := [] })
    ?ax ?assign ?body ?done ?stop
  case ax =>
    rintro x a' _ W W' row ⟨Be, h1, h2, h3⟩ hg hr
    exact ⟨Be, box_walked h1 hg (fun r e => (hr r e).2), h2, h3⟩
  case assign =>
    rintro l pre x W K hI hK
    obtain ⟨xl, xi⟩ := x
    dsimp only
    have bz := Box.new W 48 (cellsB (rep 288 0))
    obtain ⟨hst, by2, hg2⟩ := bz.storePg (l := nrm xl) (by rw [cellsB_size, rep_len]) (nrm_len _)
    have hal := ((Below.refl W.heap.size W).alloc (Nat.le_refl _) (.cells (cellsB (rep 288 0)) 48)).grown hg2 (by rw [World.size_alloc]; omega) (fun b e => by cases e; exact Nat.le_refl _)
    obtain ⟨W2, hW2⟩ : ∃ W2, (W.alloc (.cells (cellsB (rep 288 0)) 48)).setRow W.heap.size (cellsB (nrm xl)) = W2 := ⟨_, rfl⟩
    rw [hW2] at hst by2 hal
    have hz := zero48
    obtain ⟨ao, cp, bo, cq, hI'⟩ := hI
    have hfin := Lib.hid (hK · W2 (keepsFrom_below hal) (Go.Proofs.Ytlgjlhgdpiipbaa.Below.keepsLow hal) ⟨ao, cp, bo, cq, hI'.below hal⟩)
    have hs3 := hI'.size
    replace by2 := Lib.hid by2
    clear hK bz hg2 hal hW2 hI'
    unfold pgV at hst ⊢
    gi_wp2_with (refine wpListIn_store_var rfl 48 _ _ rfl _ rfl _ rfl hst ?_)
    exact hfin.out _ ⟨W.heap.size, by2.out, hs3, rfl⟩
  case body =>
    rintro l pre x a' W hl _ ⟨ao, cp, bo, cq, h⟩ ⟨Be, he, hbe, rfl⟩ hlt
    have k1 := h.nb.get 0 _ rfl
    have k3 := h.most.get 0 _ rfl
    by_cases hmx : pre.length = m
    · have t1 : ((pre.length : Int) ≥ (m : Int)) := by omega
      replace h := Lib.hid h
      replace hmx := Lib.hid hmx
      gi_wp2
      exact ⟨KeepsFrom.refl _ _, rfl, pre, ao, cp, bo, cq, List.prefix_append _ _, hmx.out, h.out⟩
    · have hle := h.le
      have t1 : ¬ ((pre.length : Int) ≥ (m : Int)) := by omega
      obtain ⟨va, vn, vc, w1, w2, hr1, x1, f1, hw2, l2, hld, vb, vm, vd, w3, w4, hr3, x3, f3, hw4, hS, hL, hF⟩ := h.round (by omega) (by omega) x Be he hbe
      have hnl := nrm_len x.1
      obtain ⟨p, hp⟩ : ∃ p, nrm x.1 = p := ⟨_, rfl⟩
      rw [hp] at hld hr3 hnl
      have hF' : KeepsFrom W0.heap.size W w4 := ⟨hF.size, fun k o hk => hF.same k o (by omega)⟩
      have hfin := Lib.hid (show KeepsFrom W0.heap.size W w4 ∧ KeepsLow w.heap.size W w4 ∧ PgI w m (pre ++ [x]) w4 from ⟨hF', hL, _, _, _, _, hS⟩)
      clear h he hS hL hF hF' hmx
      unfold pgV
      rw [hp]
      clear hp
      replace hr1 := Lib.hid hr1
      replace hr3 := Lib.hid hr3
      gi_wp2_with (first | (refine wpListIn_build_pg rfl _ rfl p rfl hnl ?_) | (refine wpListIn_load_var rfl 48 _ rfl _ rfl _ hld ?_) | (gi_at_builtin; refine wpListIn_append_run rfl _ _ 24 rfl _ _ rfl rfl _ hr1.out ?_) | (gi_at_builtin; refine wpListIn_append_run rfl _ _ 56 rfl _ _ rfl rfl _ hr3.out ?_))
      exact hfin.out
  case done =>
    rintro D ys W hD hys ⟨ao, cp, bo, cq, h⟩ hK
    subst hys
    have k1 := h.nb.get 0 _ rfl
    have k2 := h.lb.get 0 _ rfl
    have htk := Lib.hid (show ps.zipIdx.take m = ps.zipIdx from List.take_of_length_le h.le)
    replace h := Lib.hid (h.below ((Below.refl W.heap.size W).drew))
    gi_wp2_with gi_region
    refine ⟨by simp, .inl ⟨_, _, rfl, run_takeDeferred hK, ?_⟩⟩
    rw [htk.out]
    exact ⟨_, by simp [results, Try.results21, go_sem], ao, cp, bo, cq, rfl, own_walked (own_mono h.out.no (by omega)) (grownBy_putObj' W.drew D (.deferred none)) (fun r e => by cases e; exact ⟨_, (show W.drew.heap[D]? = _ from hK), rfl⟩), own_walked (own_mono h.out.lo (by omega)) (grownBy_putObj' W.drew D (.deferred none)) (fun r e => by cases e; exact ⟨_, (show W.drew.heap[D]? = _ from hK), rfl⟩), h.out.bel.trans (belowK_b (w := w) (Nat.le_refl _) W.drew D _ _ (by omega) (show W.drew.heap[D]? = _ from hK) rfl rfl)⟩
  case stop =>
    rintro D c pre W hD hp ⟨rfl, L, ao, cp, bo, cq, hL, hLm, h⟩ hK
    have k1 := h.nb.get 0 _ rfl
    have k2 := h.lb.get 0 _ rfl
    have htk := Lib.hid (show ps.zipIdx.take m = L from by rw [← hLm]; exact (List.prefix_iff_eq_take.1 (hL.trans hp)).symm)
    replace h := Lib.hid (h.below ((Below.refl W.heap.size W).drew))
    replace hLm := Lib.hid hLm
    gi_wp2_with gi_region
    refine ⟨by simp, .inl ⟨_, _, rfl, run_takeDeferred hK, ?_⟩⟩
    rw [htk.out]
    exact ⟨_, by simp [results, Try.results21, go_sem], ao, cp, bo, cq, rfl, own_walked (own_mono h.out.no (by omega)) (grownBy_putObj' W.drew D (.deferred none)) (fun r e => by cases e; exact ⟨_, (show W.drew.heap[D]? = _ from hK), rfl⟩), own_walked (own_mono h.out.lo (by omega)) (grownBy_putObj' W.drew D (.deferred none)) (fun r e => by cases e; exact ⟨_, (show W.drew.heap[D]? = _ from hK), rfl⟩), h.out.bel.trans (belowK_b (w := w) (Nat.le_refl _) W.drew D _ _ (by omega) (show W.drew.heap[D]? = _ from hK) rfl rfl)⟩
end Go.Proofs.Ytlgjlhgdpiipbaa
/- The iterator over a slice of pointers (slices.Values); copies: a block in memory of its own. -/
namespace Go.Proofs.Ytlgjlhgdpiipbaa
open Go.RowKit Go.Shelf
attribute [local go_sem] Oper.semAt_some
def ptrL {α : Type} (f : α → Nat) (x : α) : List Value := [ptr (f x)]
set_option maxRecDepth 100000 in
set_option maxHeartbeats 4000000 in
theorem vals_in {α : Type} (f : α → Nat) (n : Nat) (hn : 1 ≤ n) (l Bl B : Nat) (w0 : World) (ps : List α) (la : Option Addr) (lc : Nat) (h32 : ps.length ≤ 32) (J Jx : List α → World → Prop) (hJ : ∀ pre W W', J pre W → Below W.heap.size W W' → J pre W')
    (hY : ∀ pre x W, J pre W → pre.length < 600 → YieldAt Fence.wide (n - 1) Try.prog l #[ptr (f x)] W fun e W' =>
      (e = .returned (.bool true) ∧ J (pre ++ [x]) W' ∧ KeepsLow B W W') ∨ (e = .returned (.bool false) ∧ Jx (pre ++ [x]) W'))
    (W : World) (hBl : W.cell? ⟨Bl, 0, none⟩ = some (.slice la ps.length lc)) (hW : Below w0.heap.size w0 W) (hrd : RdC (ptrL f) 1 W (.slice la ps.length lc) ps) (hla : ∀ b o, la = some ⟨b, o, none⟩ → b < B) (h0 : J [] W) :
    CallsIn Fence.wide n Try.prog 62 #[.func (.yield l) #[] #[], .pointer (some ⟨Bl, 0, none⟩)] W fun e W' => (∃ v, e = .returned v) ∧
      ((∃ ys, ys = ps ∧ J ys W') ∨ (∃ pre, pre <+: ps ∧ Jx pre W')) := by
  replace hrd := Lib.hid hrd
  replace hla := Lib.hid hla
  replace h0 := Lib.hid h0
  replace hJ := Lib.hid hJ
  refine callsIn_of_wp Try.func62 rfl trivial ?_ rfl
  simp only [Try.ntmps62, List.size_toArray, List.length_cons, List.length_nil, Nat.reduceAdd, Nat.reduceSub, Array.replicate_succ, Array.replicate_zero, List.push_toArray, List.append_toArray, List.nil_append, List.cons_append]
  gi_wp2
  gi_loopw [7] (fun i wr => ∃ k : Nat, k ≤ ps.length ∧ i = .int .i64 k ∧ RdC (ptrL f) 1 wr (.slice la ps.length lc) ps ∧ J (ps.take k) wr)
    (fun i _ => ps.length - (intOf i).toNat)
  case atStart => exact ⟨0, Nat.zero_le _, rfl, hrd.out, h0.out⟩
  case round =>
    obtain ⟨k, hk, rfl, hrk, hJk⟩ := hrel
    by_cases hlt : k < ps.length
    · obtain ⟨bb, o, cc, hv, _, hbb, hcell⟩ := hrk.at (by intro e; rw [e] at hlt; simp at hlt)
      cases hv
      have hsn : ps.take (k + 1) = ps.take k ++ [ps[k]] := List.take_succ_eq_append_getElem hlt
      have hel : (ps.take k).length < 600 := by rw [List.length_take]; omega
      have c0 : wr.cell? ⟨bb, o + k, none⟩ = some (ptr (f ps[k])) := by have := hcell k hlt 0 _ rfl; simpa using this
      have hI0 : (0 : Int) ≤ (k : Int) := by omega
      have hI1 : (k : Int) < (ps.length : Int) := by omega
      obtain ⟨fn, tmps, assign, body, hy, hR⟩ := hY (ps.take k) ps[k] wr hJk hel
      obtain ⟨p, hp⟩ : ∃ p, f ps[k] = p := ⟨_, rfl⟩
      rw [hp] at c0 hy
      unfold ptr at c0 hy
      replace hrk := Lib.hid hrk
      replace hsn := Lib.hid hsn
      clear hcell hJk hel hp
      gi_wp2
      refine hR.mono ?_
      rintro e W3 (⟨rfl, hJ3, hk3⟩ | ⟨rfl, hJx3⟩)
      · have g1 := Lib.hid (hrk.out.low (k := 1) (fun _ => rfl) (by decide) hk3 hla.out)
        clear c0
        gi_wp2
        go_roundw
        case rel => exact ⟨k + 1, by omega, by go_num, g1.out, by rw [hsn.out]; exact hJ3⟩
        case measure => simp [intOf]; omega
      · clear c0
        gi_wp2
        refine bodyPost_ret (results_none rfl _ _ _) rfl ?_
        exact ⟨⟨_, rfl⟩, .inr ⟨_, by rw [← hsn.out]; exact List.take_prefix _ _, hJx3⟩⟩
    · have hk' : k = ps.length := by omega
      subst hk'
      rw [List.take_length] at hJk
      replace hrk := Lib.hid hrk
      gi_wp2
      go_end0
      exact ⟨⟨_, rfl⟩, .inl ⟨_, rfl, hJk⟩⟩
end Go.Proofs.Ytlgjlhgdpiipbaa
/- copies: a block in memory of its own. -/
namespace Go.Proofs.Ytlgjlhgdpiipbaa
open Go.RowKit Go.Shelf
attribute [local go_sem] Oper.semAt_some
theorem Box.load110 {W : World} {b : Nat} {t : TypeId} {l : List UInt8} (h : Box W b t (cellsB l)) (hl : l.length = 288) : (loadVar 110 ⟨b, 0, none⟩).run Try.prog W = .ok (.agg (cellsB l)) W :=
  run_loadVar_row W b t 110 (cellsB l) (0, 0) _ h Try.underlying110 rfl (by rw [cellsB_size, hl]; exact size110)
theorem Box.store110 {W : World} {b : Nat} {t : TypeId} {vs : Array Value} {l : List UInt8} (h : Box W b t vs) (hs : vs.size = 288) (hl : l.length = 288) :
    (storeVar 110 ⟨b, 0, none⟩ (.agg (cellsB l))).run Try.prog W = .ok () (W.setRow b (cellsB l)) ∧ Box (W.setRow b (cellsB l)) b t (cellsB l) ∧ W.grownBy (W.setRow b (cellsB l)) (some b) := by
  refine ⟨run_storeVar_row W b t 110 vs (cellsB l) h (by rw [cellsB_size, hl]; exact size110) (by rw [hs, cellsB_size, hl]) (cellsB_one l), ?_, ?_⟩
  · exact setRow_heap W b vs _ t (0, 0) h
  · exact ⟨rfl, rfl, rfl, by simp [World.setRow], fun k _ hne => setRow_other W b k _ (fun e => hne (by rw [e]))⟩
theorem values_any (la : Option Addr) (n lc : Nat) (w : World) : Calls Try.prog 56 #[.slice la n lc] w (fun e w' => e = .returned (.func (.func 62) #[] #[.pointer (some ⟨w.heap.size, 0, none⟩)]) ∧ w' = w.alloc (.cells #[.slice la n lc] 82)) := by
  go_enter Try.func56, Try.ntmps56
  go_wp2_with fail
  go_ret
  exact ⟨rfl, rfl⟩
/-- Numbers below n. -/
def idx (n : Nat) : List {j : Nat // j < n} := (List.range n).attach.map fun x => ⟨x.1, List.mem_range.1 x.2⟩
theorem idx_val (n : Nat) : (idx n).map Subtype.val = List.range n := by
  unfold idx
  rw [List.map_map]
  exact List.attach_map_subtype_val _
theorem idx_len (n : Nat) : (idx n).length = n := by unfold idx; simp
theorem idx_at {n j : Nat} {x : {j : Nat // j < n}} (h : (idx n)[j]? = some x) : x.1 = j := by
  have : ((idx n).map Subtype.val)[j]? = some x.1 := by rw [List.getElem?_map, h]; rfl
  rw [idx_val] at this
  have hl := (List.getElem?_eq_some_iff.1 this).1
  simp at hl
  simpa [hl] using this.symm
theorem idx_stops {pn : Nat} (q : Nat → Nat) (n : Nat) (hn : 1 ≤ n) (Bl B : Nat) (la : Option Addr) (lc : Nat) (h32 : pn ≤ 32) (w : World) (hBl : Bl < w.heap.size) (hc : w.cell? ⟨Bl, 0, none⟩ = some (.slice la pn lc))
    (hrd : RdC (ptrL fun x : {j : Nat // j < pn} => q x.1) 1 w (.slice la pn lc) (idx pn)) (hla : ∀ b o, la = some ⟨b, o, none⟩ → b < B) :
    SeqStopsK Fence.wide n Try.prog 62 #[.pointer (some ⟨Bl, 0, none⟩)] (fun x : {j : Nat // j < pn} => #[ptr (q x.1)]) (KeepsLow B) (fun ys => ys = idx pn) (fun pre => pre <+: idx pn) 600 w := fun
  l J Jx W hW hJ _ hY h0J => vals_in (fun x : {j : Nat // j < pn} => q x.1) n hn l Bl B w (idx pn) la lc (by rw [idx_len]; exact h32) J Jx (fun pre W W' h hb => hJ pre W W' none h (grown_below hb) (fun r e => by cases e)) hY W (by rw [idx_len]; exact (hW.cell (p := ⟨Bl, 0, none⟩) hBl).trans hc) hW (by rw [idx_len]; exact hrd.below hW) hla h0J
/-- The clone's pages so far. -/
def bkOf {pn : Nat} (pgs : Nat → List UInt8) (lk : Look) (pre : List {j : Nat // j < pn}) : Blk := ⟨fun y => pgs ((pre.map Subtype.val).getD y 0), lk⟩
theorem CBlk.congr {B : Nat} {W : World} {kb j : Nat} {prv : Value} {qf : Nat → Nat} {bk bk' : Blk} (h : CBlk B W kb j prv qf bk) (hl : bk'.look = bk.look) (hp : ∀ x, x < j → bk'.pages x = bk.pages x) : CBlk B W kb j prv qf bk' :=
  ⟨by rw [hl]; exact h.box, h.own, fun x hx => by rw [hp x hx]; exact h.byt x hx, h.inj, h.ge⟩
theorem bk_push {pn : Nat} (pgs : Nat → List UInt8) (lk : Look) (pre : List {j : Nat // j < pn}) (x : {j : Nat // j < pn}) : (bkOf pgs lk (pre ++ [x])).look = (bkOf pgs lk pre).look ∧ (∀ y, y < pre.length → (bkOf pgs lk (pre ++ [x])).pages y = (bkOf pgs lk pre).pages y) ∧ (bkOf pgs lk (pre ++ [x])).pages pre.length = pgs x.1 := by
  unfold bkOf
  dsimp only
  refine ⟨rfl, fun y hy => ?_, ?_⟩
  · rw [List.map_append, List.getD_eq_getElem?_getD, List.getD_eq_getElem?_getD, List.getElem?_append_left (by simpa using hy)]
  · rw [List.map_append, List.getD_eq_getElem?_getD, List.getElem?_append_right (by simp)]
    simp
theorem bk_all (pn : Nat) (pgs : Nat → List UInt8) (lk : Look) (y : Nat) (hy : y < pn) : (bkOf pgs lk (idx pn)).pages y = pgs y := by
  unfold bkOf
  dsimp only
  rw [idx_val, List.getD_eq_getElem?_getD]
  simp [hy]
/-- Between two rounds. -/
def CpI {pn : Nat} (w : World) (pgs : Nat → List UInt8) (lk : Look) (pre : List {j : Nat // j < pn}) (W : World) : Prop :=
  Box W (w.heap.size + 1) 81 #[ptr w.heap.size] ∧ (∃ pa pc qf, CBlk w.heap.size W w.heap.size pre.length (.slice pa pre.length pc) qf (bkOf pgs lk pre)) ∧ Below w.heap.size w W
theorem CBlk.walked {B : Nat} {W W' : World} {kb j : Nat} {prv : Value} {qf : Nat → Nat} {bk : Blk} {row : Option Nat} (h : CBlk B W kb j prv qf bk) (hg : W.grownBy W' row) (hr : ∀ r, row = some r → ∃ o : Obj, W.heap[r]? = some o ∧ o.isCells = false) : CBlk B W' kb j prv qf bk :=
  ⟨box_walked h.box hg hr, own_walked h.own hg hr, fun x hx => box_walked (h.byt x hx) hg hr, h.inj, h.ge⟩
theorem cpI_own {pn : Nat} (w : World) (pgs : Nat → List UInt8) (lk : Look) (B : Nat) (hB : w.heap.size ≤ B) : OwnFrom B (CpI (pn := pn) w pgs lk) := by
  rintro pre W W' row ⟨h1, ⟨pa, pc, qf, h2⟩, h3⟩ hg hr
  have hr' := fun r e => (hr r e).2
  exact ⟨box_walked h1 hg hr', ⟨pa, pc, qf, h2.walked hg hr'⟩, h3.grown hg h3.size (fun r e => Nat.le_trans hB (hr r e).1)⟩
/-- A round. -/
theorem cp_round {pn : Nat} {w W : World} {pgs : Nat → List UInt8} {lk : Look} {pre : List {j : Nat // j < pn}} {x : {j : Nat // j < pn}} {pa : Option Addr} {pc : Nat} {qf : Nat → Nat} (h1 : Box W (w.heap.size + 1) 81 #[ptr w.heap.size])
    (hC : CBlk w.heap.size W w.heap.size pre.length (.slice pa pre.length pc) qf (bkOf pgs lk pre)) (hB : Below w.heap.size w W) (hpl : pre.length < 1000) (hl : (pgs x.1).length = 288) :
    (storeVar 110 ⟨W.heap.size, 0, none⟩ (.agg (cellsB (pgs x.1)))).run Try.prog (W.alloc (.cells (cellsB (rep 288 0)) 110)) = .ok () ((W.alloc (.cells (cellsB (rep 288 0)) 110)).setRow W.heap.size (cellsB (pgs x.1))) ∧
    ∃ w1 w2, (W.alloc (.cells (cellsB (rep 288 0)) 110)).setRow W.heap.size (cellsB (pgs x.1)) = w1 ∧ w1.drew = w2 ∧ w2.cell? ⟨w.heap.size + 1, 0, none⟩ = some (.pointer (some ⟨w.heap.size, 0, none⟩)) ∧ w2.cell? ⟨w.heap.size, 0, none⟩ = some (.slice pa pre.length pc) ∧
      (w2.alloc (.cells #[.pointer (some ⟨W.heap.size, 0, none⟩)] 85)).cell? ⟨w.heap.size + 1, 0, none⟩ = some (.pointer (some ⟨w.heap.size, 0, none⟩)) ∧ (w2.alloc (.cells #[.pointer (some ⟨W.heap.size, 0, none⟩)] 85)).cell? ⟨w.heap.size, 0, none⟩ = some (.slice pa pre.length pc) ∧
      ∃ va vn vc w4, (Builtin.append_ #[82, 82] 82 #[.slice pa pre.length pc, .slice (some ⟨w2.heap.size, 0, none⟩) 1 1]).run Try.prog (w2.alloc (.cells #[.pointer (some ⟨W.heap.size, 0, none⟩)] 85)) = .ok (.slice va vn vc) w4 ∧ w4.cell? ⟨w.heap.size, 0, none⟩ = some (.slice pa pre.length pc) ∧ w4.frozen? ⟨w.heap.size, 0, none⟩ = false ∧ w4.cell? ⟨w.heap.size + 1, 0, none⟩ = some (.pointer (some ⟨w.heap.size, 0, none⟩)) ∧
        ∃ w5, w4.setCell ⟨w.heap.size, 0, none⟩ (.slice va vn vc) = w5 ∧ KeepsLow w.heap.size W w5 ∧ CpI w pgs lk (pre ++ [x]) w5 ∧ (∀ B, w.heap.size + 2 ≤ B → KeepsFrom B W w5) := by
  have b0 := Box.new W 110 (cellsB (rep 288 0))
  obtain ⟨hst, b1, hg1⟩ := b0.store110 (l := pgs x.1) (by rw [cellsB_size, rep_len]) hl
  have ha1 := ((Below.refl W.heap.size W).alloc (Nat.le_refl _) (.cells (cellsB (rep 288 0)) 110)).grown hg1 (by rw [World.size_alloc]; omega) (fun b e => by cases e; exact Nat.le_refl _)
  refine ⟨hst, _, _, rfl, rfl, ?_⟩
  replace ha1 := ha1.drew
  replace b1 := Box.drew b1
  obtain ⟨w2, hw2⟩ : ∃ w2, ((W.alloc (.cells (cellsB (rep 288 0)) 110)).setRow W.heap.size (cellsB (pgs x.1))).drew = w2 := ⟨_, rfl⟩
  rw [hw2] at b1 ha1 ⊢
  have hC2 := hC.below ha1
  have h12 := h1.below ha1
  have ha2 := (Below.refl w2.heap.size w2).alloc (Nat.le_refl _) (.cells #[.pointer (some ⟨W.heap.size, 0, none⟩)] 85)
  have hC3 := hC2.below ha2
  have h13 := h12.below ha2
  have b3 := b1.below ha2
  have hs3 : (w2.alloc (.cells #[.pointer (some ⟨W.heap.size, 0, none⟩)] 85)).cell? ⟨w2.heap.size, 0, none⟩ = some (ptr W.heap.size) := (Box.new w2 85 #[.pointer (some ⟨W.heap.size, 0, none⟩)]).get 0 _ rfl
  obtain ⟨k1, k2, k3⟩ := bk_push pgs lk pre x
  have hC3' := hC3.congr k1 k2
  have hsz := hB.size
  have hsz2 := ha1.size
  obtain ⟨v', w4, hrun, hgr, hb4, hbx4, ⟨va, vc, rfl⟩, hC5⟩ := hC3'.push hpl (by rw [World.size_alloc]; omega) W.heap.size w2.heap.size (by rw [k3]; exact b3) hsz (fun y hy e => by have := (hC.byt y hy).lt; omega) hs3 82
  have h14 := h13.grown_own hC3.own hgr (by decide)
  refine ⟨h12.get 0 _ rfl, hC2.box.get 0 _ rfl, h13.get 0 _ rfl, hC3.box.get 0 _ rfl, va, _, vc, w4, hrun, hbx4.get 0 _ rfl, hbx4.frozen 0, h14.get 0 _ rfl, _, rfl, ?_, ⟨?_, ⟨va, vc, _, by rw [List.length_append]; exact hC5⟩, ?_⟩, ?_⟩
  · have hb5 := ((ha1.trans (ha2.mono hsz2)).mono hsz).trans hb4
    exact below_keepsLow (hb5.setCell (p := ⟨w.heap.size, 0, none⟩) (Nat.le_refl _) _)
  · exact h14.far _ _ (by show w.heap.size ≠ w.heap.size + 1; omega)
  · have hb5 := ((ha1.trans (ha2.mono hsz2)).mono hsz).trans hb4
    exact (hB.trans hb5).setCell (p := ⟨w.heap.size, 0, none⟩) (Nat.le_refl _) _
  · intro B hB1
    refine ⟨by have := hb4.size; rw [World.size_alloc] at this; simp [World.setCell]; omega, fun k o hk ho hc => ?_⟩
    have hk1 : k < W.heap.size := (Array.getElem?_eq_some_iff.1 ho).1
    have n1 : some k ≠ (Value.slice pa pre.length pc).ownBlock := by
      intro e'
      rcases hC.own.2 with ⟨h0, _⟩ | ⟨g, cap, cur, h0, _, hgb, _⟩
      · rw [h0] at e'; simp [Value.ownBlock] at e'
      · rw [h0] at e'
        have : k = g := by simpa [Value.ownBlock] using e'
        subst this; rw [hgb] at ho; cases ho; cases hc
    rw [Below.heap_setCell w4 ⟨w.heap.size, 0, none⟩ _ k (by simp; omega), hgr.block k (by rw [World.size_alloc]; omega) n1, ha2.block k (by omega), ha1.block k hk1]
    exact ho
end Go.Proofs.Ytlgjlhgdpiipbaa
