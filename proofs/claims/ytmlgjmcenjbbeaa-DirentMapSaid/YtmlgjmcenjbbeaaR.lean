/- slipwayref16.put: a record's head and name in a block's copy. -/
import Derived.Test.YtmlgjmcenjbbeaaQ
namespace Go.Proofs.Ytmlgjmcenjbbeaa
open Go.RowKit
/-- append of whatever reads as a list onto nil. -/
theorem wpList_append_nil_rd {P : Program} {w : World} {ops : Array Oper} {rest : List Oper} {o : Oper} {a : Act} {Q : Exit → Act → World → Prop} (hgd : o.guard = none) (s x : Operand) (t : TypeId)
    (ho : o.op = .call { callee := .builtin .append, args := #[s, x], argTypes := #[t, t] })
    (e : TypeId) (i : TypeInfo) (z : Value) (bytes : Nat) (ht : P.underlying t = some (.slice e)) (hi : P.info? e = some i) (hz : i.zero = some z)
    (hsize : i.size = 1) (hby : i.bytes = bytes) (hzs : z.cells.size = 1)
    (v : Value) (n : Nat) (xs : List Value) (hs : a.eval s = v) (hown : w.ownsRow w.heap.size e 1 v n xs) (l : List UInt8) (hl : l ≠ []) (u : Value) (hx : a.eval x = u) (hr : RdB w u l)
    (h63 : n + l.length ≤ maxLen) (hbytes : (n + l.length) * bytes ≤ 140737488355328)
    (h : ∀ v' w', w'.ownsRow w.heap.size e 1 v' (n + l.length) (xs ++ l.map byteV) → w.grownBy w' v.ownBlock → wpList P ops Q rest (a.put o.dst v') w') : wpList P ops Q (o :: rest) a w := by
  obtain ⟨b, o', cap, rfl, hc, hb, hcell⟩ := hr.at hl
  refine wpList_plain hgd fun K hK => ?_
  obtain ⟨v', w', hrun, h2, h3, _⟩ := run_append_own_at (P := P) w w.heap.size t o.type e i z 1 bytes ht hi hz hsize hby hzs (by decide) v n xs hown ⟨b, o', none⟩ l.length cap (l.map byteV) (by simp)
    (fun j u hu => by
      rw [List.getElem?_map] at hu
      obtain ⟨y, hy, rfl⟩ := Option.map_eq_some_iff.1 hu
      have hj := (List.getElem?_eq_some_iff.1 hy).1
      have he : (⟨b, o', none⟩ : Addr).add j = ⟨b, o' + j, none⟩ := by unfold Addr.add; split <;> simp_all
      rw [he, hcell j hj]
      rw [List.getElem?_eq_getElem hj] at hy
      cases hy; rfl)
    (fun u hu => by obtain ⟨y, _, rfl⟩ := List.mem_map.1 hu; rfl) h63 hbytes (Nat.le_refl _)
  unfold Oper.wp execOp
  simp only [ho, resolve, invoke, builtin, Sem.run_bind, Sem.run_pure, Result.andThen_ok, List.map_toArray, List.map_cons, List.map_nil, hs, hx, hrun]
  exact hK _ _ (h v' w' h2 h3)
theorem OwnB.of_own {W : World} {B : Nat} {v : Value} {bs : List UInt8} (h : W.ownsRow B 5 1 v bs.length (bs.map byteV)) (hne : bs ≠ []) : ∃ g cap, v = .slice (some ⟨g, 0, none⟩) bs.length cap ∧ B ≤ g ∧ OwnB W g cap bs := by
  obtain ⟨h0, ⟨rfl, h1⟩ | ⟨g, cap, cur, rfl, hg, hh, hc, hm, hs, ht⟩⟩ := h
  · exact absurd (List.eq_nil_of_length_eq_zero h1) hne
  · exact ⟨g, cap, rfl, hg, cur, hh, by simpa using hs, hc, by simpa using ht⟩
theorem OwnB.rd {W : World} {g cap : Nat} {bs : List UInt8} (h : OwnB W g cap bs) : RdB W (.slice (some ⟨g, 0, none⟩) bs.length cap) bs := by
  have hc : bs.length ≤ cap := by obtain ⟨_, _, _, hc, _⟩ := h; exact hc
  refine ⟨_, cap, rfl, hc, fun j x hj => ⟨g, 0, rfl, h.lt, ?_⟩⟩
  have hlt := (List.getElem?_eq_some_iff.1 hj).1
  rw [Nat.zero_add, h.cell j hlt]
  rw [List.getElem?_eq_getElem hlt] at hj
  cases hj; rfl
namespace Nm
theorem inoSet4 (bs : List UInt8) (a n : Nat) : inoSet bs a n 4 = (((bs.set a (hb n 24)).set (a + 1) (hb n 16)).set (a + 2) (hb n 8)).set (a + 3) (hb n 0) := by
  rw [inoSet_succ, inoSet_succ, inoSet_succ, inoSet_succ]; rfl
end Nm
theorem infoByte : (Try.prog.info? 5).map (fun i => (i.zero, i.size, i.bytes)) = some (some (.int .u8 0), 1, 1) := by kernel_rfl
/-- A block of the call's own. -/
def BlkRes (bs : List UInt8) (w : World) (e : Ending) (w' : World) : Prop :=
  ∃ g cap, e = .returned (.slice (some ⟨g, 0, none⟩) bs.length cap) ∧ w.heap.size ≤ g ∧ OwnB w' g cap bs ∧ Below w.heap.size w w'
theorem splice_len (l : List UInt8) (i : Nat) (xs : List UInt8) (h : i + xs.length ≤ l.length) : (Nm.splice l i xs).length = l.length := by
  unfold Nm.splice; simp; omega
theorem put_len (bs : List UInt8) (a len n kd : Nat) (nm : List UInt8) (h : a + 8 + nm.length ≤ bs.length) : (Nm.put bs ⟨a, len, ⟨nm, n, kd⟩⟩).length = bs.length := by
  have hl : (Nm.headSet bs a n len nm.length kd).length = bs.length := by
    unfold Nm.headSet
    rw [List.length_set, List.length_set, List.length_set, List.length_set, Nm.inoSet_len]
  show (Nm.splice (Nm.headSet bs a n len nm.length kd) (a + 8) nm).length = bs.length
  rw [splice_len _ _ _ (by rw [hl]; exact h), hl]
set_option maxRecDepth 100000 in
set_option maxHeartbeats 4000000 in
theorem put_any (bs : List UInt8) (v : Value) (a n len kd : Nat) (nm : List UInt8) (w : World) (hr : RdB w v bs) (h256 : bs.length = 256) (hfit : a + 8 + nm.length ≤ 256) (hn : n < 4294967296) (hlen : len < 65536) (hkd : kd < 256) :
    Calls Try.prog 41 #[v, recV ⟨a, len, ⟨nm, n, kd⟩⟩] w (BlkRes (Nm.put bs ⟨a, len, ⟨nm, n, kd⟩⟩) w) := by
  have hpl := Lib.hid (put_len bs a len n kd nm (by omega))
  unfold recV
  dsimp only
  have hne : bs ≠ [] := by intro e; rw [e] at h256; simp at h256
  obtain ⟨i0, hi0, hz0, hz1, hz2⟩ := info_parts infoByte
  obtain ⟨aa, cv, hv⟩ := hr.len
  have hu : v = .slice aa 256 cv := by rw [hv, h256]
  subst hu
  clear hv
  have hB1 := (Below.refl _ w).alloc (Nat.le_refl _) (.cells #[.int .i64 a, .int .i64 len, .string (S nm), .int .i64 n, .int .i64 kd] 62)
  have bx1 := Box.new w 62 #[.int .i64 a, .int .i64 len, .string (S nm), .int .i64 n, .int .i64 kd]
  have hr1 := hr.below hB1
  clear hr
  replace hr1 := Lib.hid hr1
  replace h256 := Lib.hid h256
  replace hne := Lib.hid hne
  replace bx1 := Lib.hid bx1
  go_enter Try.func41, Try.ntmps41
  go_wp2_with (at_builtin; refine wpList_append_nil_rd rfl _ _ 22 rfl 5 i0 (.int .u8 0) 1 Try.underlying22 hi0 hz0 hz1 hz2 rfl (.slice none 0 0) 0 [] rfl (World.ownsRow_nil _ _ _ _) bs hne.out _ rfl hr1.out (by rw [h256.out]; decide) (by rw [h256.out]; decide) ?_; intro v' W2 hown hg2; refine Hid.out ?_)
  refine Lib.hid ?_
  rw [Nat.zero_add, List.nil_append] at hown
  rw [World.size_alloc] at hown
  obtain ⟨g, cap, rfl, hgB, ow2⟩ := OwnB.of_own hown hne.out
  have bx2 : Box W2 w.heap.size 62 #[.int .i64 a, .int .i64 len, .string (S nm), .int .i64 n, .int .i64 kd] := bx1.out.grown hg2 (by simp [Value.ownBlock])
  have hB2 : Below w.heap.size w W2 := hB1.grown hg2 (by rw [World.size_alloc]; omega) (fun k hk => by simp [Value.ownBlock] at hk)
  clear hown hg2 hr1 hB1 bx1
  have h256' := h256.out
  have d0 := bx2.get 0 _ rfl
  have d1 := bx2.get 1 _ rfl
  have d2 := bx2.get 2 _ rfl
  have d3 := bx2.get 3 _ rfl
  have d4 := bx2.get 4 _ rfl
  have hcap : 256 ≤ cap := by obtain ⟨_, _, _, hc, _⟩ := ow2; omega
  have c0 := ow2.cell (a) (by omega)
  have f0 := ow2.frozen (a)
  obtain ⟨x0, hx0⟩ : ∃ x, bs[a]'(by omega) = x := ⟨_, rfl⟩
  rw [hx0] at c0
  unfold byteV at c0
  clear hx0
  have c1 := ow2.cell (a + 1) (by omega)
  have f1 := ow2.frozen (a + 1)
  obtain ⟨x1, hx1⟩ : ∃ x, bs[a + 1]'(by omega) = x := ⟨_, rfl⟩
  rw [hx1] at c1
  unfold byteV at c1
  clear hx1
  have c2 := ow2.cell (a + 2) (by omega)
  have f2 := ow2.frozen (a + 2)
  obtain ⟨x2, hx2⟩ : ∃ x, bs[a + 2]'(by omega) = x := ⟨_, rfl⟩
  rw [hx2] at c2
  unfold byteV at c2
  clear hx2
  have c3 := ow2.cell (a + 3) (by omega)
  have f3 := ow2.frozen (a + 3)
  obtain ⟨x3, hx3⟩ : ∃ x, bs[a + 3]'(by omega) = x := ⟨_, rfl⟩
  rw [hx3] at c3
  unfold byteV at c3
  clear hx3
  have c4 := ow2.cell (a + 4) (by omega)
  have f4 := ow2.frozen (a + 4)
  obtain ⟨x4, hx4⟩ : ∃ x, bs[a + 4]'(by omega) = x := ⟨_, rfl⟩
  rw [hx4] at c4
  unfold byteV at c4
  clear hx4
  have c5 := ow2.cell (a + 5) (by omega)
  have f5 := ow2.frozen (a + 5)
  obtain ⟨x5, hx5⟩ : ∃ x, bs[a + 5]'(by omega) = x := ⟨_, rfl⟩
  rw [hx5] at c5
  unfold byteV at c5
  clear hx5
  have c6 := ow2.cell (a + 6) (by omega)
  have f6 := ow2.frozen (a + 6)
  obtain ⟨x6, hx6⟩ : ∃ x, bs[a + 6]'(by omega) = x := ⟨_, rfl⟩
  rw [hx6] at c6
  unfold byteV at c6
  clear hx6
  have c7 := ow2.cell (a + 7) (by omega)
  have f7 := ow2.frozen (a + 7)
  obtain ⟨x7, hx7⟩ : ∃ x, bs[a + 7]'(by omega) = x := ⟨_, rfl⟩
  rw [hx7] at c7
  unfold byteV at c7
  clear hx7
  rw [h256']
  replace h256' := Lib.hid h256'
  replace ow2 := Lib.hid ow2
  replace bx2 := Lib.hid bx2
  replace hB2 := Lib.hid hB2
  go_wp2
  rw [bv24 n hn, bv16, bv8, bv0, bv8s len hlen, bv0, bv0s nm.length (by omega), bv0s kd hkd]
  have ow3 : OwnB ((((((((W2.setCell ⟨g, a, none⟩ (byteV (Nm.hb n 24))).setCell ⟨g, a + 1, none⟩ (byteV (Nm.hb n 16))).setCell ⟨g, a + 2, none⟩ (byteV (Nm.hb n 8))).setCell ⟨g, a + 3, none⟩ (byteV (Nm.hb n 0))).setCell ⟨g, a + 4, none⟩ (byteV (Nm.hb len 8))).setCell ⟨g, a + 5, none⟩ (byteV (Nm.hb len 0))).setCell ⟨g, a + 6, none⟩ (byteV (Nm.hb nm.length 0))).setCell ⟨g, a + 7, none⟩ (byteV (Nm.hb kd 0))) g cap ((((((((bs.set (a) (Nm.hb n 24)).set (a + 1) (Nm.hb n 16)).set (a + 2) (Nm.hb n 8)).set (a + 3) (Nm.hb n 0)).set (a + 4) (Nm.hb len 8)).set (a + 5) (Nm.hb len 0)).set (a + 6) (Nm.hb nm.length 0)).set (a + 7) (Nm.hb kd 0)) := ((((((((ow2.out.set (a) _).set (a + 1) _).set (a + 2) _).set (a + 3) _).set (a + 4) _).set (a + 5) _).set (a + 6) _).set (a + 7) _)
  have bx3 : Box ((((((((W2.setCell ⟨g, a, none⟩ (byteV (Nm.hb n 24))).setCell ⟨g, a + 1, none⟩ (byteV (Nm.hb n 16))).setCell ⟨g, a + 2, none⟩ (byteV (Nm.hb n 8))).setCell ⟨g, a + 3, none⟩ (byteV (Nm.hb n 0))).setCell ⟨g, a + 4, none⟩ (byteV (Nm.hb len 8))).setCell ⟨g, a + 5, none⟩ (byteV (Nm.hb len 0))).setCell ⟨g, a + 6, none⟩ (byteV (Nm.hb nm.length 0))).setCell ⟨g, a + 7, none⟩ (byteV (Nm.hb kd 0))) w.heap.size 62 #[.int .i64 a, .int .i64 len, .string (S nm), .int .i64 n, .int .i64 kd] := ((((((((bx2.out.far ⟨g, a, none⟩ _ (by show g ≠ w.heap.size; omega)).far ⟨g, a + 1, none⟩ _ (by show g ≠ w.heap.size; omega)).far ⟨g, a + 2, none⟩ _ (by show g ≠ w.heap.size; omega)).far ⟨g, a + 3, none⟩ _ (by show g ≠ w.heap.size; omega)).far ⟨g, a + 4, none⟩ _ (by show g ≠ w.heap.size; omega)).far ⟨g, a + 5, none⟩ _ (by show g ≠ w.heap.size; omega)).far ⟨g, a + 6, none⟩ _ (by show g ≠ w.heap.size; omega)).far ⟨g, a + 7, none⟩ _ (by show g ≠ w.heap.size; omega))
  have hB3 : Below w.heap.size w ((((((((W2.setCell ⟨g, a, none⟩ (byteV (Nm.hb n 24))).setCell ⟨g, a + 1, none⟩ (byteV (Nm.hb n 16))).setCell ⟨g, a + 2, none⟩ (byteV (Nm.hb n 8))).setCell ⟨g, a + 3, none⟩ (byteV (Nm.hb n 0))).setCell ⟨g, a + 4, none⟩ (byteV (Nm.hb len 8))).setCell ⟨g, a + 5, none⟩ (byteV (Nm.hb len 0))).setCell ⟨g, a + 6, none⟩ (byteV (Nm.hb nm.length 0))).setCell ⟨g, a + 7, none⟩ (byteV (Nm.hb kd 0))) := ((((((((hB2.out.setCell (p := ⟨g, a, none⟩) (by show w.heap.size ≤ g; omega) _).setCell (p := ⟨g, a + 1, none⟩) (by show w.heap.size ≤ g; omega) _).setCell (p := ⟨g, a + 2, none⟩) (by show w.heap.size ≤ g; omega) _).setCell (p := ⟨g, a + 3, none⟩) (by show w.heap.size ≤ g; omega) _).setCell (p := ⟨g, a + 4, none⟩) (by show w.heap.size ≤ g; omega) _).setCell (p := ⟨g, a + 5, none⟩) (by show w.heap.size ≤ g; omega) _).setCell (p := ⟨g, a + 6, none⟩) (by show w.heap.size ≤ g; omega) _).setCell (p := ⟨g, a + 7, none⟩) (by show w.heap.size ≤ g; omega) _)
  generalize ((((((((W2.setCell ⟨g, a, none⟩ (byteV (Nm.hb n 24))).setCell ⟨g, a + 1, none⟩ (byteV (Nm.hb n 16))).setCell ⟨g, a + 2, none⟩ (byteV (Nm.hb n 8))).setCell ⟨g, a + 3, none⟩ (byteV (Nm.hb n 0))).setCell ⟨g, a + 4, none⟩ (byteV (Nm.hb len 8))).setCell ⟨g, a + 5, none⟩ (byteV (Nm.hb len 0))).setCell ⟨g, a + 6, none⟩ (byteV (Nm.hb nm.length 0))).setCell ⟨g, a + 7, none⟩ (byteV (Nm.hb kd 0))) = W3 at ow3 bx3 hB3 ⊢
  have hput := Lib.hid (show Nm.splice ((((((((bs.set (a) (Nm.hb n 24)).set (a + 1) (Nm.hb n 16)).set (a + 2) (Nm.hb n 8)).set (a + 3) (Nm.hb n 0)).set (a + 4) (Nm.hb len 8)).set (a + 5) (Nm.hb len 0)).set (a + 6) (Nm.hb nm.length 0)).set (a + 7) (Nm.hb kd 0)) (a + 8) nm = Nm.put bs ⟨a, len, ⟨nm, n, kd⟩⟩ by
    show _ = Nm.splice (Nm.headSet bs a n len nm.length kd) (a + 8) nm
    unfold Nm.headSet
    rw [Nm.inoSet4])
  have hl6 := Lib.hid (show (((((((((bs.set (a) (Nm.hb n 24)).set (a + 1) (Nm.hb n 16)).set (a + 2) (Nm.hb n 8)).set (a + 3) (Nm.hb n 0)).set (a + 4) (Nm.hb len 8)).set (a + 5) (Nm.hb len 0)).set (a + 6) (Nm.hb nm.length 0)).set (a + 7) (Nm.hb kd 0))).length = 256 by simp only [List.length_set]; exact h256'.out)
  generalize ((((((((bs.set (a) (Nm.hb n 24)).set (a + 1) (Nm.hb n 16)).set (a + 2) (Nm.hb n 8)).set (a + 3) (Nm.hb n 0)).set (a + 4) (Nm.hb len 8)).set (a + 5) (Nm.hb len 0)).set (a + 6) (Nm.hb nm.length 0)).set (a + 7) (Nm.hb kd 0)) = b6 at ow3 hput hl6
  have ha8 := Lib.hid (show IntKind.i64.wrap ((a : Int) + 8) = (a : Int) + 8 by rw [IntKind.wrap_i64]; omega)
  clear c0 f0 x0 c1 f1 x1 c2 f2 x2 c3 f3 x3 c4 f4 x4 c5 f5 x5 c6 f6 x6 c7 f7 x7 d0 d1 d2 d3 d4 ow2 bx2 hB2
  replace ow3 := Lib.hid ow3
  replace bx3 := Lib.hid bx3
  replace hB3 := Lib.hid hB3
  have i1 : (0 : Int) ≤ (a : Int) + 8 := by omega
  have i2 : (a : Int) + 8 ≤ 256 := by omega
  have i3 : (a : Int) + 8 ≤ (cap : Int) := by omega
  have i4 : ((a : Int) + 8).toNat = a + 8 := by omega
  by_cases hcz : cap = a + 8
  · have hn0 : nm = [] := List.eq_nil_of_length_eq_zero (by omega)
    subst hn0
    have hrun := Lib.hid (copy_nothing (W := W3.drew) (some ⟨g, 0, none⟩) 0 0 3)
    have hsp : Nm.splice b6 (a + 8) [] = b6 := by unfold Nm.splice; simp
    rw [hsp] at hput
    have hz1 : 248 - a = 0 := by omega
    have hz2 : cap - (a + 8) = 0 := by omega
    refine wp_region_noPanic ?_
    refine wp_region_held_drew (S := (fun w' => ∀ j, w'.cell? ⟨w.heap.size, j, none⟩ = (#[.int .i64 a, .int .i64 len, .string (S []), .int .i64 n, .int .i64 kd] : Array Value)[j]?)) (by kernel_rfl) (bx3.out.drew.cell) (fun hHeld => ?_)
    refine wpAnyH_take (i := 0) (v := ?_) rfl (by kernel_rfl) (by kernel_rfl) (by kernel_rfl) (fun _ _ _ h => h) (Or.inl ⟨rfl, ?_⟩) (by assumption) ?_
    rotate_left
    · intro W hSw
      (try dsimp only at hSw)
      go_simp
      try with_reducible rfl
    try simp only [List.getElem_toArray, List.getElem_cons_zero, List.getElem_cons_succ, Act.put, List.setIfInBounds_toArray, List.set_cons_zero, List.set_cons_succ]
    refine wpAnyH_take (i := 1) (v := ?_) rfl (by kernel_rfl) (by kernel_rfl) (by kernel_rfl) (fun _ _ _ h => h) (Or.inl ⟨rfl, ?_⟩) (by assumption) ?_
    rotate_left
    · intro W hSw
      (try dsimp only at hSw)
      go_simp
      try with_reducible rfl
    try simp only [List.getElem_toArray, List.getElem_cons_zero, List.getElem_cons_succ, Act.put, List.setIfInBounds_toArray, List.set_cons_zero, List.set_cons_succ]
    refine wpAnyH_take (i := 2) (v := ?_) rfl (by kernel_rfl) (by kernel_rfl) (by kernel_rfl) (fun _ _ _ h => h) (Or.inl ⟨rfl, ?_⟩) (by assumption) ?_
    rotate_left
    · intro W hSw
      (try dsimp only at hSw)
      go_simp
      try with_reducible rfl
    try simp only [List.getElem_toArray, List.getElem_cons_zero, List.getElem_cons_succ, Act.put, List.setIfInBounds_toArray, List.set_cons_zero, List.set_cons_succ]
    have hq0 := ha8.out
    refine wpAnyH_take (i := 3) (v := ?_) rfl (by kernel_rfl) (by kernel_rfl) (by kernel_rfl) (fun _ _ _ h => h) (Or.inl ⟨rfl, ?_⟩) (by assumption) ?_
    rotate_left
    · intro W hSw
      (try dsimp only at hSw)
      go_simp
      try with_reducible rfl
    try simp only [List.getElem_toArray, List.getElem_cons_zero, List.getElem_cons_succ, Act.put, List.setIfInBounds_toArray, List.set_cons_zero, List.set_cons_succ]
    clear hq0
    refine wpAnyH_take (i := 4) (v := ?_) rfl (by kernel_rfl) (by kernel_rfl) (by kernel_rfl) (fun _ _ _ h => h) (Or.inl ⟨rfl, ?_⟩) (by assumption) ?_
    rotate_left
    · intro W hSw
      (try dsimp only at hSw)
      go_simp
      try with_reducible rfl
    try simp only [List.getElem_toArray, List.getElem_cons_zero, List.getElem_cons_succ, Act.put, List.setIfInBounds_toArray, List.set_cons_zero, List.set_cons_succ]
    refine wpAnyH_take (i := 5) (v := ?_) rfl (by kernel_rfl) (by kernel_rfl) (by kernel_rfl) (fun _ _ _ h => h) (Or.inl ⟨rfl, ?_⟩) (by assumption) ?_
    rotate_left
    · intro W hSw
      (try dsimp only at hSw)
      go_simp
      try with_reducible rfl
    try simp only [List.getElem_toArray, List.getElem_cons_zero, List.getElem_cons_succ, Act.put, List.setIfInBounds_toArray, List.set_cons_zero, List.set_cons_succ]
    refine wpAnyH_take (i := 6) (v := ?_) rfl (by kernel_rfl) (by kernel_rfl) (by kernel_rfl) (fun _ _ _ h => h) (Or.inl ⟨rfl, ?_⟩) (by assumption) ?_
    rotate_left
    · intro W hSw
      (try dsimp only at hSw)
      go_simp
      try with_reducible rfl
    try simp only [List.getElem_toArray, List.getElem_cons_zero, List.getElem_cons_succ, Act.put, List.setIfInBounds_toArray, List.set_cons_zero, List.set_cons_succ]
    refine wpAnyH_take (i := 7) (v := ?_) rfl (by kernel_rfl) (by kernel_rfl) (by kernel_rfl) (fun _ _ _ h => h) (Or.inl ⟨rfl, ?_⟩) (by assumption) ?_
    rotate_left
    · intro W hSw
      (try dsimp only at hSw)
      go_simp
      try with_reducible rfl
    try simp only [List.getElem_toArray, List.getElem_cons_zero, List.getElem_cons_succ, Act.put, List.setIfInBounds_toArray, List.set_cons_zero, List.set_cons_succ]
    refine wpAnyH_ready (rs := [8]) (by kernel_rfl) (by simp) (AllReadyH.cons rfl (fun K hK => ?_) AllReadyH.nil)
    refine step_copy_run rfl (.tmp 81) (.tmp 84) 22 9 rfl (.slice (some ⟨g, 0, none⟩) 0 0) (.string (S [])) (by rfl) (by rfl) _ _ hrun.out ?_
    refine hK.out _ _ bx3.out.drew.cell (fun hHeld => ?_)
    clear hK
    try simp only [List.getElem_toArray, List.getElem_cons_zero, List.getElem_cons_succ, Act.put, List.setIfInBounds_toArray, List.set_cons_zero, List.set_cons_succ]
    refine wpAnyH_done (by kernel_rfl) ?_ _
    (try dsimp only [NoPanic])
    go_wp2_with fail
    go_ret
    exact ⟨g, cap, by rw [hpl.out, h256'.out]; rfl, by omega, by rw [← hput.out]; exact ow3.out.drew, hB3.out.drew⟩
  have hcz' : ¬ cap - (a + 8) = 0 := by omega
  have hrun0 := ow3.out.drew.splice (a + 8) nm (by rw [hl6.out]; omega) (248 - a) (cap - (a + 8)) (by omega) 3
  obtain ⟨W7, hrun, ow7, hoth, hgr⟩ := hrun0
  replace hrun := Lib.hid hrun
  have bx7 : Box W7 w.heap.size 62 #[.int .i64 a, .int .i64 len, .string (S nm), .int .i64 n, .int .i64 kd] := (hoth _ (by omega)).trans bx3.out
  rw [hput.out] at ow7
  have hB7 : Below w.heap.size w W7 := hB3.out.drew.grown hgr (by exact hB3.out.size) (fun k hk => by cases hk; omega)
  replace ow7 := Lib.hid ow7
  replace bx7 := Lib.hid bx7
  replace hB7 := Lib.hid hB7
  clear hoth hgr
  refine wp_region_noPanic ?_
  refine wp_region_held_drew (S := (fun w' => ∀ j, w'.cell? ⟨w.heap.size, j, none⟩ = (#[.int .i64 a, .int .i64 len, .string (S nm), .int .i64 n, .int .i64 kd] : Array Value)[j]?)) (by kernel_rfl) (bx3.out.drew.cell) (fun hHeld => ?_)
  refine wpAnyH_take (i := 0) (v := ?_) rfl (by kernel_rfl) (by kernel_rfl) (by kernel_rfl) (fun _ _ _ h => h) (Or.inl ⟨rfl, ?_⟩) (by assumption) ?_
  rotate_left
  · intro W hSw
    (try dsimp only at hSw)
    go_simp
    try with_reducible rfl
  try simp only [List.getElem_toArray, List.getElem_cons_zero, List.getElem_cons_succ, Act.put, List.setIfInBounds_toArray, List.set_cons_zero, List.set_cons_succ]
  refine wpAnyH_take (i := 1) (v := ?_) rfl (by kernel_rfl) (by kernel_rfl) (by kernel_rfl) (fun _ _ _ h => h) (Or.inl ⟨rfl, ?_⟩) (by assumption) ?_
  rotate_left
  · intro W hSw
    (try dsimp only at hSw)
    go_simp
    try with_reducible rfl
  try simp only [List.getElem_toArray, List.getElem_cons_zero, List.getElem_cons_succ, Act.put, List.setIfInBounds_toArray, List.set_cons_zero, List.set_cons_succ]
  refine wpAnyH_take (i := 2) (v := ?_) rfl (by kernel_rfl) (by kernel_rfl) (by kernel_rfl) (fun _ _ _ h => h) (Or.inl ⟨rfl, ?_⟩) (by assumption) ?_
  rotate_left
  · intro W hSw
    (try dsimp only at hSw)
    go_simp
    try with_reducible rfl
  try simp only [List.getElem_toArray, List.getElem_cons_zero, List.getElem_cons_succ, Act.put, List.setIfInBounds_toArray, List.set_cons_zero, List.set_cons_succ]
  have hq0 := ha8.out
  refine wpAnyH_take (i := 3) (v := ?_) rfl (by kernel_rfl) (by kernel_rfl) (by kernel_rfl) (fun _ _ _ h => h) (Or.inl ⟨rfl, ?_⟩) (by assumption) ?_
  rotate_left
  · intro W hSw
    (try dsimp only at hSw)
    go_simp
    try with_reducible rfl
  try simp only [List.getElem_toArray, List.getElem_cons_zero, List.getElem_cons_succ, Act.put, List.setIfInBounds_toArray, List.set_cons_zero, List.set_cons_succ]
  clear hq0
  refine wpAnyH_take (i := 4) (v := ?_) rfl (by kernel_rfl) (by kernel_rfl) (by kernel_rfl) (fun _ _ _ h => h) (Or.inl ⟨rfl, ?_⟩) (by assumption) ?_
  rotate_left
  · intro W hSw
    (try dsimp only at hSw)
    go_simp
    try with_reducible rfl
  try simp only [List.getElem_toArray, List.getElem_cons_zero, List.getElem_cons_succ, Act.put, List.setIfInBounds_toArray, List.set_cons_zero, List.set_cons_succ]
  refine wpAnyH_take (i := 5) (v := ?_) rfl (by kernel_rfl) (by kernel_rfl) (by kernel_rfl) (fun _ _ _ h => h) (Or.inl ⟨rfl, ?_⟩) (by assumption) ?_
  rotate_left
  · intro W hSw
    (try dsimp only at hSw)
    go_simp
    try with_reducible rfl
  try simp only [List.getElem_toArray, List.getElem_cons_zero, List.getElem_cons_succ, Act.put, List.setIfInBounds_toArray, List.set_cons_zero, List.set_cons_succ]
  refine wpAnyH_take (i := 6) (v := ?_) rfl (by kernel_rfl) (by kernel_rfl) (by kernel_rfl) (fun _ _ _ h => h) (Or.inl ⟨rfl, ?_⟩) (by assumption) ?_
  rotate_left
  · intro W hSw
    (try dsimp only at hSw)
    go_simp
    try with_reducible rfl
  try simp only [List.getElem_toArray, List.getElem_cons_zero, List.getElem_cons_succ, Act.put, List.setIfInBounds_toArray, List.set_cons_zero, List.set_cons_succ]
  refine wpAnyH_take (i := 7) (v := ?_) rfl (by kernel_rfl) (by kernel_rfl) (by kernel_rfl) (fun _ _ _ h => h) (Or.inl ⟨rfl, ?_⟩) (by assumption) ?_
  rotate_left
  · intro W hSw
    (try dsimp only at hSw)
    go_simp
    try with_reducible rfl
  try simp only [List.getElem_toArray, List.getElem_cons_zero, List.getElem_cons_succ, Act.put, List.setIfInBounds_toArray, List.set_cons_zero, List.set_cons_succ]
  refine wpAnyH_ready (rs := [8]) (by kernel_rfl) (by simp) (AllReadyH.cons rfl (fun K hK => ?_) AllReadyH.nil)
  refine step_copy_run rfl (.tmp 81) (.tmp 84) 22 9 rfl _ _ rfl rfl _ _ hrun.out ?_
  refine hK.out _ _ bx7.out.cell (fun hHeld => ?_)
  clear hK
  try simp only [List.getElem_toArray, List.getElem_cons_zero, List.getElem_cons_succ, Act.put, List.setIfInBounds_toArray, List.set_cons_zero, List.set_cons_succ]
  refine wpAnyH_done (by kernel_rfl) ?_ _
  (try dsimp only [NoPanic])
  go_wp2_with fail
  go_ret
  exact ⟨g, cap, by rw [hpl.out, h256'.out]; rfl, by omega, ow7.out, hB7.out⟩
end Go.Proofs.Ytmlgjmcenjbbeaa
