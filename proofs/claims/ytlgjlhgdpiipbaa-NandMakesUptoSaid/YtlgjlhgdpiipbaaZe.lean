/- The law's pages: between two rounds; a round's two appends. -/
import Derived.Test.YtlgjlhgdpiipbaaZd
namespace Go.Proofs.Ytlgjlhgdpiipbaa
open Go.RowKit Go.Shelf
/-- Own rows of other elements lie elsewhere. -/
theorem own_other {W W' : World} {B B2 : Nat} {e e2 : TypeId} {s s2 n n2 : Nat} {v v2 : Value} {xs xs2 : List Value} (h : W.ownsRow B e s v n xs) (h2 : W.ownsRow B2 e2 s2 v2 n2 xs2) (hne : e ≠ e2) (hg : W.grownBy W' v2.ownBlock) : W'.ownsRow B e s v n xs := by
  refine h.kept hg ?_
  obtain ⟨_, ⟨rfl, _⟩ | ⟨g, cap, cur, rfl, _, hh, _⟩⟩ := h
  · exact .inl rfl
  · right
    intro e0
    obtain ⟨_, ⟨rfl, _⟩ | ⟨g2, cap2, cur2, rfl, _, hh2, _⟩⟩ := h2
    · simp [Value.ownBlock] at e0
    · have : g = g2 := by simpa [Value.ownBlock] using e0
      subst this
      rw [hh] at hh2
      cases hh2
      exact hne rfl
theorem own_set {W : World} {B : Nat} {e : TypeId} {s n : Nat} {v : Value} {xs : List Value} (h : W.ownsRow B e s v n xs) (b j : Nat) (u : Value) (hb : b < B) : (W.setCell ⟨b, j, none⟩ u).ownsRow B e s v n xs := by
  refine h.kept (grown_set1 W b j u) ?_
  have h' := h
  obtain ⟨_, ⟨rfl, _⟩ | ⟨g, cap, cur, rfl, hg, _⟩⟩ := h
  · exact .inl rfl
  · right
    intro e0
    have : g = b := by simpa [Value.ownBlock] using e0
    omega
/-- Between two rounds of the law's pages: the indices and the pages so far. -/
structure PgS (w W : World) (m : Nat) (pre : List (List UInt8 × Nat)) (ao : Option Addr) (cp : Nat) (bo : Option Addr) (cq : Nat) : Prop where
  most : Box W w.heap.size 3 #[.int .i64 m]
  nb : Box W (w.heap.size + 1) 24 #[.slice ao pre.length cp]
  lb : Box W (w.heap.size + 2) 56 #[.slice bo pre.length cq]
  no : W.ownsRow (w.heap.size + 3) 3 1 (.slice ao pre.length cp) pre.length (pre.map fun x => .int .i64 (x.2 : Nat))
  lo : W.ownsRow (w.heap.size + 3) 48 288 (.slice bo pre.length cq) pre.length (pre.flatMap fun x => pgL x.1)
  le : pre.length ≤ m
  bel : Below w.heap.size w W
  size : w.heap.size + 3 ≤ W.heap.size
theorem PgS.below {w W W' : World} {m : Nat} {pre : List (List UInt8 × Nat)} {ao bo : Option Addr} {cp cq : Nat} (h : PgS w W m pre ao cp bo cq) (hb : Below W.heap.size W W') : PgS w W' m pre ao cp bo cq :=
  ⟨h.most.below hb, h.nb.below hb, h.lb.below hb, own_below h.no hb, own_below h.lo hb, h.le, h.bel.trans (hb.mono h.bel.size), Nat.le_trans h.size hb.size⟩
/-- The first append. -/
theorem PgS.pushN {w W : World} {m : Nat} {pre : List (List UInt8 × Nat)} {ao bo : Option Addr} {cp cq : Nat} (h : PgS w W m pre ao cp bo cq) (hl : pre.length < 100000) (i : Nat) :
    ∃ va vn vc w1, (Builtin.append_ #[24, 24] 24 #[.slice ao pre.length cp, .slice (some ⟨W.heap.size, 0, none⟩) 1 1]).run Try.prog (W.alloc (.cells #[.int .i64 (i : Nat)] 3)) = .ok (.slice va vn vc) w1 ∧ vn = pre.length + 1 ∧
      Box w1 (w.heap.size + 1) 24 #[.slice ao pre.length cp] ∧ Box (w1.setCell ⟨w.heap.size + 1, 0, none⟩ (.slice va vn vc)) (w.heap.size + 1) 24 #[.slice va (pre.length + 1) vc] ∧
      (w1.setCell ⟨w.heap.size + 1, 0, none⟩ (.slice va vn vc)).ownsRow (w.heap.size + 3) 3 1 (.slice va (pre.length + 1) vc) (pre.length + 1) ((pre.map fun x => (Value.int .i64 (x.2 : Nat))) ++ [.int .i64 (i : Nat)]) ∧
      Box (w1.setCell ⟨w.heap.size + 1, 0, none⟩ (.slice va vn vc)) w.heap.size 3 #[.int .i64 m] ∧ Box (w1.setCell ⟨w.heap.size + 1, 0, none⟩ (.slice va vn vc)) (w.heap.size + 2) 56 #[.slice bo pre.length cq] ∧
      (w1.setCell ⟨w.heap.size + 1, 0, none⟩ (.slice va vn vc)).ownsRow (w.heap.size + 3) 48 288 (.slice bo pre.length cq) pre.length (pre.flatMap fun x => pgL x.1) ∧
      Below w.heap.size w (w1.setCell ⟨w.heap.size + 1, 0, none⟩ (.slice va vn vc)) ∧ (∀ b t vs, Box W b t vs → t ≠ 3 → b ≠ w.heap.size + 1 → Box (w1.setCell ⟨w.heap.size + 1, 0, none⟩ (.slice va vn vc)) b t vs) ∧ W.heap.size < w1.heap.size ∧ (W.alloc (.cells #[.int .i64 (i : Nat)] 3)).grownBy w1 (Value.slice ao pre.length cp).ownBlock := by
  obtain ⟨i0, hi0, hz0, hz1, hz2⟩ := info_parts info3
  have hal := (Below.refl W.heap.size W).alloc (Nat.le_refl _) (.cells #[.int .i64 (i : Nat)] 3)
  have h1 := h.below hal
  have bx := Box.new W 3 #[.int .i64 (i : Nat)]
  have hsz := h.size
  obtain ⟨v', w1, hr, h2, h3, _, _⟩ := run_append_own_at (P := Try.prog) (W.alloc (.cells #[.int .i64 (i : Nat)] 3)) (w.heap.size + 3) 24 24 3 i0 (.int .i64 0) 1 8 Try.underlying24 hi0 hz0 hz1 hz2 rfl (by decide)
    (.slice ao pre.length cp) pre.length _ h1.no ⟨W.heap.size, 0, none⟩ 1 1 [.int .i64 (i : Nat)] rfl (fun j u hu => by
      match j, hu with
      | 0, hu =>
        simp at hu; subst hu
        rw [show (⟨W.heap.size, 0, none⟩ : Addr).add 0 = ⟨W.heap.size, 0, none⟩ from by simp [Addr.add]]
        exact bx.get 0 _ rfl) (fun u hu => by simp at hu; subst hu; rfl) (by unfold maxLen; omega) (by omega) (by rw [World.size_alloc]; omega)
  have hnb := h1.nb.grown_own h1.no h3 (by decide)
  have hlb := h1.lb.grown_own h1.no h3 (by decide)
  have hmo : Box w1 w.heap.size 3 #[.int .i64 m] := h1.most.grown h3 (fun e => by have := (h1.no.lt _ e.symm).1; omega)
  have hlo := own_other h1.lo h1.no (by decide) h3
  have hs1 := h3.size
  rw [World.size_alloc] at hs1
  obtain ⟨_, ⟨_, h0⟩ | ⟨g, cap, cur, rfl, _⟩⟩ := id h2
  · omega
  · refine ⟨_, _, _, w1, hr, rfl, hnb, hnb.set 0 _, own_set h2 _ _ _ (by omega), hmo.far _ _ (by simp), hlb.far _ _ (by simp), own_set hlo _ _ _ (by omega), ?_, fun b t vs hb ht hne => ?_, by omega, h3⟩
    · exact (h1.bel.grown h3 h1.bel.size (fun b hb => by have := (h1.no.lt b hb).1; omega)).setCell (p := ⟨w.heap.size + 1, 0, none⟩) (by simp) _
    · exact ((hb.below hal).grown_own h1.no h3 ht).far _ _ (Ne.symm hne)
/-- The second append. -/
theorem pushL {w W : World} {m k : Nat} {ns : List Value} {ys : List Value} {va bo : Option Addr} {vc cq : Nat} (hmo : Box W w.heap.size 3 #[.int .i64 m]) (hnb : Box W (w.heap.size + 1) 24 #[.slice va (k + 1) vc]) (hlb : Box W (w.heap.size + 2) 56 #[.slice bo k cq])
    (hno : W.ownsRow (w.heap.size + 3) 3 1 (.slice va (k + 1) vc) (k + 1) ns) (hlo : W.ownsRow (w.heap.size + 3) 48 288 (.slice bo k cq) k ys) (hbel : Below w.heap.size w W) (hsz : w.heap.size + 3 ≤ W.heap.size) (hl : k < 100000) (p : List UInt8) (hp : p.length = 288) :
    ∃ vb vm vd w3, (Builtin.append_ #[56, 56] 56 #[.slice bo k cq, .slice (some ⟨W.heap.size, 0, none⟩) 1 1]).run Try.prog (W.alloc (.cells (cellsB p) 48)) = .ok (.slice vb vm vd) w3 ∧ vm = k + 1 ∧ Box w3 (w.heap.size + 2) 56 #[.slice bo k cq] ∧
      Box (w3.setCell ⟨w.heap.size + 2, 0, none⟩ (.slice vb vm vd)) (w.heap.size + 2) 56 #[.slice vb (k + 1) vd] ∧ (w3.setCell ⟨w.heap.size + 2, 0, none⟩ (.slice vb vm vd)).ownsRow (w.heap.size + 3) 48 288 (.slice vb (k + 1) vd) (k + 1) (ys ++ p.map byteV) ∧
      Box (w3.setCell ⟨w.heap.size + 2, 0, none⟩ (.slice vb vm vd)) w.heap.size 3 #[.int .i64 m] ∧ Box (w3.setCell ⟨w.heap.size + 2, 0, none⟩ (.slice vb vm vd)) (w.heap.size + 1) 24 #[.slice va (k + 1) vc] ∧
      (w3.setCell ⟨w.heap.size + 2, 0, none⟩ (.slice vb vm vd)).ownsRow (w.heap.size + 3) 3 1 (.slice va (k + 1) vc) (k + 1) ns ∧ Below w.heap.size w (w3.setCell ⟨w.heap.size + 2, 0, none⟩ (.slice vb vm vd)) ∧ W.heap.size < w3.heap.size ∧ (W.alloc (.cells (cellsB p) 48)).grownBy w3 (Value.slice bo k cq).ownBlock := by
  obtain ⟨i0, hi0, hz0, hz1, hz2⟩ := info_parts info48
  have hal := (Below.refl W.heap.size W).alloc (Nat.le_refl _) (.cells (cellsB p) 48)
  have bx := Box.new W 48 (cellsB p)
  have hlo1 := own_below hlo hal
  have hno1 := own_below hno hal
  obtain ⟨v', w3, hr, h2, h3, _, _⟩ := run_append_own_at (P := Try.prog) (W.alloc (.cells (cellsB p) 48)) (w.heap.size + 3) 56 56 48 i0 (.agg (cellsB (rep 288 0))) 288 288 Try.underlying56 hi0 hz0 hz1 hz2 (by show (cellsB (rep 288 0)).size = 288; rw [cellsB_size, rep_len]) (by decide)
    (.slice bo k cq) k ys hlo1 ⟨W.heap.size, 0, none⟩ 1 1 (p.map byteV) (by rw [List.length_map, hp]) (fun j u hu => by
      rw [show (⟨W.heap.size, 0, none⟩ : Addr).add j = ⟨W.heap.size, j, none⟩ from by unfold Addr.add; split <;> simp_all]
      refine bx.get j u ?_
      unfold cellsB
      simpa using hu) (fun u hu => by obtain ⟨y, _, rfl⟩ := List.mem_map.1 hu; rfl) (by unfold maxLen; omega) (by omega) (by rw [World.size_alloc]; omega)
  have hbl1 := hbel.trans (hal.mono hbel.size)
  have hmo3 := (hmo.below hal).grown_own hlo1 h3 (by decide)
  have hnb3 := (hnb.below hal).grown_own hlo1 h3 (by decide)
  have hlb3 := (hlb.below hal).grown_own hlo1 h3 (by decide)
  have hno3 := own_other hno1 hlo1 (by decide) h3
  have hs1 := h3.size
  rw [World.size_alloc] at hs1
  obtain ⟨_, ⟨_, h0⟩ | ⟨g, cap, cur, rfl, _⟩⟩ := id h2
  · omega
  · refine ⟨_, _, _, w3, hr, rfl, hlb3, hlb3.set 0 _, own_set h2 _ _ _ (by omega), hmo3.far _ _ (by simp), hnb3.far _ _ (by simp), own_set hno3 _ _ _ (by omega), ?_, by omega, h3⟩
    exact (hbl1.grown h3 hbl1.size (fun b hb => by have := (hlo1.lt b hb).1; omega)).setCell (p := ⟨w.heap.size + 2, 0, none⟩) (by simp) _
end Go.Proofs.Ytlgjlhgdpiipbaa
