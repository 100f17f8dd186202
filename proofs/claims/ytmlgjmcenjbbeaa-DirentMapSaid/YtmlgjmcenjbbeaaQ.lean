/- dirent.head: a record's head and its name, put into a block of the call's own. -/
import Derived.Test.YtmlgjmcenjbbeaaP
import Derived.Lib.BufferWrite
import Derived.Laws.CopyOwn
namespace Go.Proofs.Ytmlgjmcenjbbeaa
open Go.RowKit
/-- Block g holds these bytes first. -/
def OwnB (W : World) (g cap : Nat) (bs : List UInt8) : Prop :=
  ∃ cur, W.heap[g]? = some (.cells cur 5 (0, 0)) ∧ cur.size = cap ∧ bs.length ≤ cap ∧ cur.toList.take bs.length = bs.map byteV
theorem OwnB.lt {W : World} {g cap : Nat} {bs : List UInt8} (h : OwnB W g cap bs) : g < W.heap.size := by
  obtain ⟨cur, h1, _⟩ := h; exact (Array.getElem?_eq_some_iff.1 h1).1
theorem OwnB.cell {W : World} {g cap : Nat} {bs : List UInt8} (h : OwnB W g cap bs) (j : Nat) (hj : j < bs.length) : W.cell? ⟨g, j, none⟩ = some (byteV bs[j]) := by
  obtain ⟨cur, h1, h2, h3, h4⟩ := h
  have : (cur.toList.take bs.length)[j]? = some (byteV bs[j]) := by rw [h4, List.getElem?_map, List.getElem?_eq_getElem hj]; rfl
  rw [List.getElem?_take_of_lt hj] at this
  simp [World.cell?, h1]
  simpa using this
theorem OwnB.frozen {W : World} {g cap : Nat} {bs : List UInt8} (h : OwnB W g cap bs) (j : Nat) : W.frozen? ⟨g, j, none⟩ = false := by
  obtain ⟨cur, h1, _⟩ := h
  simp [World.frozen?, h1]
theorem OwnB.set {W : World} {g cap : Nat} {bs : List UInt8} (h : OwnB W g cap bs) (j : Nat) (c : UInt8) : OwnB (W.setCell ⟨g, j, none⟩ (byteV c)) g cap (bs.set j c) := by
  obtain ⟨cur, h1, h2, h3, h4⟩ := h
  refine ⟨cur.setIfInBounds j (byteV c), by simp [World.setCell, Array.getElem?_modify, h1], by simpa using h2, by simpa using h3, ?_⟩
  rw [List.length_set, Array.toList_setIfInBounds, List.map_set, ← h4, List.take_set]
theorem OwnB.far {W : World} {g cap : Nat} {bs : List UInt8} (h : OwnB W g cap bs) (p : Addr) (v : Value) (hp : p.block ≠ g) : OwnB (W.setCell p v) g cap bs := by
  obtain ⟨cur, h1, h2⟩ := h
  exact ⟨cur, (Below.heap_setCell W p v g (fun e => hp e.symm)).trans h1, h2⟩
theorem OwnB.alloc {W : World} {g cap : Nat} {bs : List UInt8} (h : OwnB W g cap bs) (o : Obj) : OwnB (W.alloc o) g cap bs := by
  have hl := h.lt
  obtain ⟨cur, h1, h2⟩ := h
  exact ⟨cur, (Below.heap_alloc W o g hl).trans h1, h2⟩
theorem OwnB.below {W W' : World} {g cap : Nat} {bs : List UInt8} (h : OwnB W g cap bs) (hb : Below W.heap.size W W') : OwnB W' g cap bs := by
  have hl := h.lt
  obtain ⟨cur, h1, h2⟩ := h
  exact ⟨cur, (hb.block g hl).trans h1, h2⟩
theorem OwnB.drew {W : World} {g cap : Nat} {bs : List UInt8} (h : OwnB W g cap bs) : OwnB W.drew g cap bs := h
theorem Box.far {W : World} {b : Nat} {t : TypeId} {vs : Array Value} (h : Box W b t vs) (p : Addr) (v : Value) (hp : p.block ≠ b) : Box (W.setCell p v) b t vs :=
  (Below.heap_setCell W p v b (fun e => hp e.symm)).trans h
theorem grown_set {w W : World} {g : Nat} (h : w.grownBy W (some g)) (j : Nat) (v : Value) : w.grownBy (W.setCell ⟨g, j, none⟩ v) (some g) :=
  ⟨h.os, h.tape, h.output, by simpa [World.setCell] using h.size, fun k hk hne => (Below.heap_setCell W ⟨g, j, none⟩ v k (fun e => hne (by rw [e]))).trans (h.block k hk hne)⟩
theorem grown_drew {w W : World} {r : Option Nat} (h : w.grownBy W r) : w.grownBy W.drew r := ⟨h.os, h.tape, h.output, h.size, h.block⟩
namespace Nm
def hb (n k : Nat) : UInt8 := UInt8.ofNat (n / 2 ^ k)
def splice (l : List UInt8) (i : Nat) (xs : List UInt8) : List UInt8 := l.take i ++ xs ++ l.drop (i + xs.length)
def inoSet (bs : List UInt8) (a n k : Nat) : List UInt8 := (List.range k).foldl (fun l i => l.set (a + i) (hb n (24 - 8 * i))) bs
theorem inoSet_succ (bs : List UInt8) (a n k : Nat) : inoSet bs a n (k + 1) = (inoSet bs a n k).set (a + k) (hb n (24 - 8 * k)) := by
  unfold inoSet; rw [List.range_succ, List.foldl_append]; rfl
theorem inoSet_len (bs : List UInt8) (a n k : Nat) : (inoSet bs a n k).length = bs.length := by
  induction k with
  | zero => rfl
  | succ k ih => rw [inoSet_succ, List.length_set, ih]
/-- A record's head and name in a block. -/
def headSet (bs : List UInt8) (a n len k kd : Nat) : List UInt8 :=
  ((((inoSet bs a n 4).set (a + 4) (hb len 8)).set (a + 5) (hb len 0)).set (a + 6) (hb k 0)).set (a + 7) (hb kd 0)
def put (bs : List UInt8) (r : Rec) : List UInt8 := splice (headSet bs r.at_.toNat r.e.ino.toNat r.len.toNat r.e.name.length r.e.kind.toNat) (r.at_.toNat + 8) r.e.name
end Nm
theorem byteV_hb (n k : Nat) : byteV (Nm.hb n k) = .int .u8 ((n / 2 ^ k % 256 : Nat) : Int) := by
  unfold byteV Nm.hb
  simp
theorem bv24 (n : Nat) (h : n < 4294967296) : Value.int .u8 ((n : Int) / 16777216) = byteV (Nm.hb n 24) := by
  rw [byteV_hb]; congr 1; omega
theorem bv16 (n : Nat) : Value.int .u8 ((n : Int) / 65536 % 256) = byteV (Nm.hb n 16) := by
  rw [byteV_hb]; congr 1
theorem bv8 (n : Nat) : Value.int .u8 ((n : Int) / 256 % 256) = byteV (Nm.hb n 8) := by
  rw [byteV_hb]; congr 1
theorem bv0 (n : Nat) : Value.int .u8 ((n : Int) % 256) = byteV (Nm.hb n 0) := by
  rw [byteV_hb]; congr 1; omega
theorem bv8s (n : Nat) (h : n < 65536) : Value.int .u8 ((n : Int) / 256) = byteV (Nm.hb n 8) := by
  rw [byteV_hb]; congr 1; omega
theorem bv0s (n : Nat) (h : n < 256) : Value.int .u8 (n : Int) = byteV (Nm.hb n 0) := by
  rw [byteV_hb]; congr 1; omega
theorem OwnB.splice {W : World} {g cap : Nat} {bs : List UInt8} (h : OwnB W g cap bs) (o : Nat) (s : List UInt8) (hf : o + s.length ≤ bs.length) (dLen dCap : Nat) (hle : s.length ≤ dLen) (ty : TypeId) :
    ∃ W', (Builtin.copy_ #[22, 9] ty #[.slice (some ⟨g, o, none⟩) dLen dCap, .string (S s)]).run Try.prog W = .ok (goInt s.length) W' ∧ OwnB W' g cap (Nm.splice bs o s) ∧ (∀ k, k ≠ g → W'.heap[k]? = W.heap[k]?) ∧ W.grownBy W' (some g) := by
  obtain ⟨cur, h1, h2, h3, h4⟩ := h
  have hb : cur.toList.length = cap := by simpa using h2
  have hrun := Lib.run_copy_row_string (P := Try.prog) W 22 9 ty 5 g o dLen dCap (S s) cur 5 Try.underlying22 (by kernel_rfl) h1 (by simpa using hle) (by simp; omega)
  rw [S_size, S_data] at hrun
  refine ⟨_, hrun, ⟨(List.take o cur.toList ++ Lib.byteCells s ++ List.drop (o + s.length) cur.toList).toArray, by simp [World.setRow, Array.getElem?_modify, h1], ?_, ?_, ?_⟩, fun k hk => setRow_other W g k _ hk, rfl, rfl, rfl, by simp [World.setRow], fun k _ hne => setRow_other W g k _ (fun e => hne (by rw [e]))⟩
  · simp [Lib.byteCells]; omega
  · unfold Nm.splice; simp; omega
  · have hl : (Nm.splice bs o s).length = bs.length := by unfold Nm.splice; simp; omega
    rw [hl]
    have e1 : (cur.toList.take o) = (bs.take o).map byteV := by
      rw [List.map_take, ← h4, List.take_take, Nat.min_eq_left (by omega)]
    have e2 : (cur.toList.drop (o + s.length)).take (bs.length - (o + s.length)) = (bs.drop (o + s.length)).map byteV := by
      rw [List.map_drop, ← h4, List.drop_take]
    show List.take bs.length (cur.toList.take o ++ Lib.byteCells s ++ cur.toList.drop (o + s.length)) = _
    rw [List.append_assoc, e1]
    unfold Nm.splice
    rw [List.append_assoc, List.map_append, List.map_append]
    have hl1 : ((bs.take o).map byteV).length = o := by simp; omega
    rw [List.take_append, hl1, List.take_of_length_le (by rw [hl1]; omega)]
    congr 1
    have hl2 : (Lib.byteCells s).length = s.length := by simp [Lib.byteCells]
    rw [List.take_append, hl2, List.take_of_length_le (by rw [hl2]; omega), Nat.sub_sub, e2]
    rfl
theorem copy_nothing {W : World} (d : Option Addr) (dLen dCap : Nat) (ty : TypeId) :
    (Builtin.copy_ #[22, 9] ty #[.slice d dLen dCap, .string (S [])]).run Try.prog W = .ok (goInt 0) W :=
  Lib.run_copy_empty_string (P := Try.prog) W 22 9 ty 5 d dLen dCap (S []) Try.underlying22 (by kernel_rfl) (by simp)
/-- A copy as one step of a region that draws its order, by its run. -/
theorem step_copy_run {P : Program} {ops : Array Oper} {o : Oper} {a : Act} {w : World} {K : Act → World → Prop} {Q : Exit → Act → World → Prop} {E : Prop} (hgd : o.guard = none) (d s : Operand) (dT sT : TypeId)
    (ho : o.op = .call { callee := .builtin .copy, args := #[d, s], argTypes := #[dT, sT] }) (v u : Value) (hd : a.eval d = v) (hs : a.eval s = u) (r : Value) (w' : World)
    (hrun : (Builtin.copy_ #[dT, sT] o.type #[v, u]).run P w = .ok r w') (hK : K (a.put o.dst r) w') :
    if Region.wanted o (yielded ops a.tmps) = true then Oper.wp P o a w K Q else E := by
  have hw : Region.wanted o (yielded ops a.tmps) = true := by simp [Region.wanted, hgd]
  rw [if_pos hw]
  unfold Oper.wp
  simp [execOp, ho, resolve, invoke, builtin, hd, hs, hrun, Result.andThen]
  exact hK
/-- A block of the call's own turned; nothing else. -/
def PutRes (g cap : Nat) (bs : List UInt8) (w : World) (e : Ending) (w' : World) : Prop := e = .returned (.tuple #[]) ∧ OwnB w' g cap bs ∧ w.grownBy w' (some g)
set_option maxRecDepth 100000 in
set_option maxHeartbeats 4000000 in
theorem head_any (bs : List UInt8) (g cap a n len kd : Nat) (nm : List UInt8) (w : World) (hown : OwnB w g cap bs) (h256 : bs.length = 256) (hfit : a + 8 + nm.length ≤ 256) (hn : n < 4294967296) (hlen : len < 65536) (hkd : kd < 256) :
    Calls Try.prog 40 #[.slice (some ⟨g, 0, none⟩) 256 cap, recV ⟨a, len, ⟨nm, n, kd⟩⟩] w (PutRes g cap (Nm.put bs ⟨a, len, ⟨nm, n, kd⟩⟩) w) := by
  unfold recV
  dsimp only
  have hgl := hown.lt
  have hcap : 256 ≤ cap := by obtain ⟨cur, _, _, h, _⟩ := hown; omega
  obtain ⟨W1, hW1⟩ : ∃ W1, w.alloc (.cells #[.int .i64 a, .int .i64 len, .string (S nm), .int .i64 n, .int .i64 kd] 69) = W1 := ⟨_, rfl⟩
  have bx1 : Box W1 w.heap.size 69 #[.int .i64 a, .int .i64 len, .string (S nm), .int .i64 n, .int .i64 kd] := by rw [← hW1]; exact Box.new _ _ _
  have ow1 : OwnB W1 g cap bs := by rw [← hW1]; exact hown.alloc _
  have hg1 : w.grownBy W1 (some g) := by rw [← hW1]; exact World.grownBy_alloc _ _ _
  have d0 := bx1.get 0 _ rfl
  have d1 := bx1.get 1 _ rfl
  have d2 := bx1.get 2 _ rfl
  have d3 := bx1.get 3 _ rfl
  have d4 := bx1.get 4 _ rfl
  have hac : ¬ cap = a := by omega
  have hca : a + 7 < cap := by omega
  have hb1 : a + 7 < bs.length := by omega
  replace hown := Lib.hid hown
  replace h256 := Lib.hid h256
  replace bx1 := Lib.hid bx1
  replace ow1 := Lib.hid ow1
  replace hg1 := Lib.hid hg1
  go_enter Try.func40, Try.ntmps40
  go_wp2
  clear hW1
  go_loopw [10] (fun i wr => ∃ k : Nat, k ≤ 4 ∧ i = .int .i64 k ∧ OwnB wr g cap (Nm.inoSet bs a n k) ∧ Box wr w.heap.size 69 #[.int .i64 a, .int .i64 len, .string (S nm), .int .i64 n, .int .i64 kd] ∧ w.grownBy wr (some g)) (fun i _ => 4 - (intOf i).toNat)
  case atStart => exact ⟨0, by omega, rfl, ow1.out, bx1.out, hg1.out⟩
  case round =>
    obtain ⟨k, hk, rfl, hO, hX, hG⟩ := hrel
    have e0 := hX.get 0 _ rfl
    have e1 := hX.get 1 _ rfl
    have e2 := hX.get 2 _ rfl
    have e3 := hX.get 3 _ rfl
    have e4 := hX.get 4 _ rfl
    clear d0 d1 d2 d3 d4
    by_cases h4 : k = 4
    · subst h4
      have hl4 := Lib.hid (Nm.inoSet_len bs a n 4)
      obtain ⟨b4, hb4⟩ : ∃ b4, Nm.inoSet bs a n 4 = b4 := ⟨_, rfl⟩
      rw [hb4] at hO hl4
      have h4c := hO.cell (a + 4) (by rw [hl4.out]; omega)
      have h5c := hO.cell (a + 5) (by rw [hl4.out]; omega)
      have h4f := hO.frozen (a + 4)
      have h5f := hO.frozen (a + 5)
      obtain ⟨x4, hx4⟩ : ∃ x, b4[a + 4]'(by rw [hl4.out]; omega) = x := ⟨_, rfl⟩
      obtain ⟨x5, hx5⟩ : ∃ x, b4[a + 5]'(by rw [hl4.out]; omega) = x := ⟨_, rfl⟩
      rw [hx4] at h4c
      rw [hx5] at h5c
      unfold byteV at h4c h5c
      clear hx4 hx5
      replace hO := Lib.hid hO
      replace hX := Lib.hid hX
      replace hG := Lib.hid hG
      replace hb4 := Lib.hid hb4
      go_wp2
      go_region
      rw [bv8s len hlen, bv0]
      have ow5 : OwnB ((wr.setCell ⟨g, a + 4, none⟩ (byteV (Nm.hb len 8))).setCell ⟨g, a + 5, none⟩ (byteV (Nm.hb len 0))).drew g cap ((b4.set (a + 4) (Nm.hb len 8)).set (a + 5) (Nm.hb len 0)) := ((hO.out.set (a + 4) _).set (a + 5) _).drew
      have bx5 : Box ((wr.setCell ⟨g, a + 4, none⟩ (byteV (Nm.hb len 8))).setCell ⟨g, a + 5, none⟩ (byteV (Nm.hb len 0))).drew w.heap.size 69 #[.int .i64 a, .int .i64 len, .string (S nm), .int .i64 n, .int .i64 kd] := ((hX.out.far ⟨g, a + 4, none⟩ _ (by show g ≠ w.heap.size; omega)).far ⟨g, a + 5, none⟩ _ (by show g ≠ w.heap.size; omega)).drew
      have hg5 : w.grownBy ((wr.setCell ⟨g, a + 4, none⟩ (byteV (Nm.hb len 8))).setCell ⟨g, a + 5, none⟩ (byteV (Nm.hb len 0))).drew (some g) := grown_drew (grown_set (grown_set hG.out (a + 4) _) (a + 5) _)
      generalize ((wr.setCell ⟨g, a + 4, none⟩ (byteV (Nm.hb len 8))).setCell ⟨g, a + 5, none⟩ (byteV (Nm.hb len 0))).drew = W5 at ow5 bx5 hg5 ⊢
      obtain ⟨b5, hb5⟩ : ∃ b5, (b4.set (a + 4) (Nm.hb len 8)).set (a + 5) (Nm.hb len 0) = b5 := ⟨_, rfl⟩
      have hl5 := Lib.hid (show b5.length = bs.length by rw [← hb5, List.length_set, List.length_set, hl4.out])
      rw [hb5] at ow5
      clear e0 e1 e2 e3 e4 h4c h5c h4f h5f hO hX hG x4 x5
      have e0 := bx5.get 0 _ rfl
      have e1 := bx5.get 1 _ rfl
      have e2 := bx5.get 2 _ rfl
      have e3 := bx5.get 3 _ rfl
      have e4 := bx5.get 4 _ rfl
      have h6c := ow5.cell (a + 6) (by rw [hl5.out]; omega)
      have h7c := ow5.cell (a + 7) (by rw [hl5.out]; omega)
      have h6f := ow5.frozen (a + 6)
      have h7f := ow5.frozen (a + 7)
      obtain ⟨x6, hx6⟩ : ∃ x, b5[a + 6]'(by rw [hl5.out]; omega) = x := ⟨_, rfl⟩
      obtain ⟨x7, hx7⟩ : ∃ x, b5[a + 7]'(by rw [hl5.out]; omega) = x := ⟨_, rfl⟩
      rw [hx6] at h6c
      rw [hx7] at h7c
      unfold byteV at h6c h7c
      clear hx6 hx7
      replace ow5 := Lib.hid ow5
      replace bx5 := Lib.hid bx5
      replace hg5 := Lib.hid hg5
      replace hb5 := Lib.hid hb5
      go_wp2
      go_region
      rw [bv0s nm.length (by omega), bv0s kd hkd]
      have ow6 : OwnB ((W5.setCell ⟨g, a + 6, none⟩ (byteV (Nm.hb nm.length 0))).setCell ⟨g, a + 7, none⟩ (byteV (Nm.hb kd 0))).drew g cap ((b5.set (a + 6) (Nm.hb nm.length 0)).set (a + 7) (Nm.hb kd 0)) := ((ow5.out.set (a + 6) _).set (a + 7) _).drew
      have bx6 : Box ((W5.setCell ⟨g, a + 6, none⟩ (byteV (Nm.hb nm.length 0))).setCell ⟨g, a + 7, none⟩ (byteV (Nm.hb kd 0))).drew w.heap.size 69 #[.int .i64 a, .int .i64 len, .string (S nm), .int .i64 n, .int .i64 kd] := ((bx5.out.far ⟨g, a + 6, none⟩ _ (by show g ≠ w.heap.size; omega)).far ⟨g, a + 7, none⟩ _ (by show g ≠ w.heap.size; omega)).drew
      have hg6 : w.grownBy ((W5.setCell ⟨g, a + 6, none⟩ (byteV (Nm.hb nm.length 0))).setCell ⟨g, a + 7, none⟩ (byteV (Nm.hb kd 0))).drew (some g) := grown_drew (grown_set (grown_set hg5.out (a + 6) _) (a + 7) _)
      generalize ((W5.setCell ⟨g, a + 6, none⟩ (byteV (Nm.hb nm.length 0))).setCell ⟨g, a + 7, none⟩ (byteV (Nm.hb kd 0))).drew = W6 at ow6 bx6 hg6 ⊢
      have hput := Lib.hid (show Nm.splice ((b5.set (a + 6) (Nm.hb nm.length 0)).set (a + 7) (Nm.hb kd 0)) (a + 8) nm = Nm.put bs ⟨a, len, ⟨nm, n, kd⟩⟩ by
        unfold Nm.put Nm.headSet
        rw [← hb5.out, ← hb4.out]; rfl)
      obtain ⟨b6, hb6⟩ : ∃ b6, (b5.set (a + 6) (Nm.hb nm.length 0)).set (a + 7) (Nm.hb kd 0) = b6 := ⟨_, rfl⟩
      have hl6 := Lib.hid (show b6.length = bs.length by rw [← hb6, List.length_set, List.length_set, hl5.out])
      rw [hb6] at ow6 hput
      clear e0 e1 e2 e3 e4 h6c h7c h6f h7f ow5 bx5 hg5 x6 x7 hb6 hb5 hb4
      replace ow6 := Lib.hid ow6
      replace bx6 := Lib.hid bx6
      replace hg6 := Lib.hid hg6
      by_cases hcz : cap - a = 8
      · have hn0 : nm = [] := List.eq_nil_of_length_eq_zero (by omega)
        subst hn0
        have hrun := Lib.hid (copy_nothing (W := W6.drew) (some ⟨g, a, none⟩) 0 0 3)
        have hsp : Nm.splice b6 (a + 8) [] = b6 := by unfold Nm.splice; simp
        rw [hsp] at hput
        have hz1 : 256 - a = 8 := by omega
        go_wp2_with fail
        refine wp_region_noPanic ?_
        refine wp_region_held_drew (S := (fun w' => ∀ j, w'.cell? ⟨w.heap.size, j, none⟩ = (#[.int .i64 a, .int .i64 len, .string (S []), .int .i64 n, .int .i64 kd] : Array Value)[j]?)) (by kernel_rfl) (bx6.out.drew.cell) (fun hHeld => ?_)
        refine wpAnyH_take (i := 0) (v := ?_) rfl (by kernel_rfl) (by kernel_rfl) (by kernel_rfl) (fun _ _ _ h => h) (Or.inl ⟨rfl, ?_⟩) (by assumption) ?_
        rotate_left
        · intro W hSw
          (try dsimp only at hSw)
          go_simp
          try with_reducible rfl
        try simp only [List.getElem_toArray, List.getElem_cons_zero, List.getElem_cons_succ, Act.put, List.setIfInBounds_toArray, List.set_cons_zero, List.set_cons_succ]
        (try rw [hcz, hz1])
        refine wpAnyH_take (i := 1) (v := ?_) rfl (by kernel_rfl) (by kernel_rfl) (by kernel_rfl) (fun _ _ _ h => h) (Or.inl ⟨rfl, ?_⟩) (by assumption) ?_
        rotate_left
        · intro W hSw
          (try dsimp only at hSw)
          go_simp
          try with_reducible rfl
        try simp only [List.getElem_toArray, List.getElem_cons_zero, List.getElem_cons_succ, Act.put, List.setIfInBounds_toArray, List.set_cons_zero, List.set_cons_succ]
        refine wpAnyH_take (i := 2) (v := ?_) rfl (by kernel_rfl) (by kernel_rfl) (by kernel_rfl) (fun _ _ _ h => h) (Or.inl ⟨rfl, ?_⟩) (by assumption) ?_
        rotate_left
        · intro W hSw
          (try dsimp only at hSw)
          go_simp
          try with_reducible rfl
        try simp only [List.getElem_toArray, List.getElem_cons_zero, List.getElem_cons_succ, Act.put, List.setIfInBounds_toArray, List.set_cons_zero, List.set_cons_succ]
        refine wpAnyH_take (i := 3) (v := ?_) rfl (by kernel_rfl) (by kernel_rfl) (by kernel_rfl) (fun _ _ _ h => h) (Or.inl ⟨rfl, ?_⟩) (by assumption) ?_
        rotate_left
        · intro W hSw
          (try dsimp only at hSw)
          go_simp
          try with_reducible rfl
        try simp only [List.getElem_toArray, List.getElem_cons_zero, List.getElem_cons_succ, Act.put, List.setIfInBounds_toArray, List.set_cons_zero, List.set_cons_succ]
        refine wpAnyH_take (i := 4) (v := ?_) rfl (by kernel_rfl) (by kernel_rfl) (by kernel_rfl) (fun _ _ _ h => h) (Or.inl ⟨rfl, ?_⟩) (by assumption) ?_
        rotate_left
        · intro W hSw
          (try dsimp only at hSw)
          go_simp
          try with_reducible rfl
        try simp only [List.getElem_toArray, List.getElem_cons_zero, List.getElem_cons_succ, Act.put, List.setIfInBounds_toArray, List.set_cons_zero, List.set_cons_succ]
        refine wpAnyH_ready (rs := [5]) (by kernel_rfl) (by simp) (AllReadyH.cons rfl (fun K hK => ?_) AllReadyH.nil)
        refine step_copy_run rfl (.tmp 50) (.tmp 53) 22 9 rfl _ _ rfl rfl _ _ hrun.out ?_
        refine hK.out _ _ bx6.out.drew.cell (fun hHeld => ?_)
        clear hK
        try simp only [List.getElem_toArray, List.getElem_cons_zero, List.getElem_cons_succ, Act.put, List.setIfInBounds_toArray, List.set_cons_zero, List.set_cons_succ]
        refine wpAnyH_done (by kernel_rfl) ?_ _
        (try dsimp only [NoPanic])
        go_wp2_with fail
        refine bodyPost_ret (v := .tuple #[]) (by simp [results, Try.results40, go_sem]) rfl ?_
        exact ⟨rfl, by rw [← hput.out]; exact ow6.out.drew, grown_drew hg6.out⟩
      have hrun0 := ow6.out.drew.splice (a + 8) nm (by rw [hl6.out, h256.out]; omega) (256 - a - 8) (cap - a - 8) (by omega) 3
      obtain ⟨W7, hrun, ow7, hoth, hgr⟩ := hrun0
      replace hrun := Lib.hid hrun
      have bx7 : Box W7 w.heap.size 69 #[.int .i64 a, .int .i64 len, .string (S nm), .int .i64 n, .int .i64 kd] := (hoth _ (by omega)).trans bx6.out
      rw [hput.out] at ow7
      have hg7 : w.grownBy W7 (some g) := (grown_drew hg6.out).trans hgr
      replace ow7 := Lib.hid ow7
      replace bx7 := Lib.hid bx7
      replace hg7 := Lib.hid hg7
      clear hoth hgr
      have hcz' : (8 : Int) ≤ ((256 - a : Nat) : Int) := by omega
      have hcz2 : ((256 - a : Nat) : Int) ≤ ((cap - a : Nat) : Int) := by omega
      go_wp2
      refine wp_region_noPanic ?_
      refine wp_region_held_drew (S := (fun w' => ∀ j, w'.cell? ⟨w.heap.size, j, none⟩ = (#[.int .i64 a, .int .i64 len, .string (S nm), .int .i64 n, .int .i64 kd] : Array Value)[j]?)) (by kernel_rfl) (bx6.out.drew.cell) (fun hHeld => ?_)
      refine wpAnyH_take (i := 0) (v := ?_) rfl (by kernel_rfl) (by kernel_rfl) (by kernel_rfl) (fun _ _ _ h => h) (Or.inl ⟨rfl, ?_⟩) (by assumption) ?_
      rotate_left
      · intro W hSw
        (try dsimp only at hSw)
        go_simp
        try with_reducible rfl
      try simp only [List.getElem_toArray, List.getElem_cons_zero, List.getElem_cons_succ, Act.put, List.setIfInBounds_toArray, List.set_cons_zero, List.set_cons_succ]
      refine wpAnyH_take (i := 1) (v := ?_) rfl (by kernel_rfl) (by kernel_rfl) (by kernel_rfl) (fun _ _ _ h => h) (Or.inl ⟨rfl, ?_⟩) (by assumption) ?_
      rotate_left
      · intro W hSw
        (try dsimp only at hSw)
        go_simp
        try with_reducible rfl
      try simp only [List.getElem_toArray, List.getElem_cons_zero, List.getElem_cons_succ, Act.put, List.setIfInBounds_toArray, List.set_cons_zero, List.set_cons_succ]
      refine wpAnyH_take (i := 2) (v := ?_) rfl (by kernel_rfl) (by kernel_rfl) (by kernel_rfl) (fun _ _ _ h => h) (Or.inl ⟨rfl, ?_⟩) (by assumption) ?_
      rotate_left
      · intro W hSw
        (try dsimp only at hSw)
        go_simp
        try with_reducible rfl
      try simp only [List.getElem_toArray, List.getElem_cons_zero, List.getElem_cons_succ, Act.put, List.setIfInBounds_toArray, List.set_cons_zero, List.set_cons_succ]
      refine wpAnyH_take (i := 3) (v := ?_) rfl (by kernel_rfl) (by kernel_rfl) (by kernel_rfl) (fun _ _ _ h => h) (Or.inl ⟨rfl, ?_⟩) (by assumption) ?_
      rotate_left
      · intro W hSw
        (try dsimp only at hSw)
        go_simp
        try with_reducible rfl
      try simp only [List.getElem_toArray, List.getElem_cons_zero, List.getElem_cons_succ, Act.put, List.setIfInBounds_toArray, List.set_cons_zero, List.set_cons_succ]
      refine wpAnyH_take (i := 4) (v := ?_) rfl (by kernel_rfl) (by kernel_rfl) (by kernel_rfl) (fun _ _ _ h => h) (Or.inl ⟨rfl, ?_⟩) (by assumption) ?_
      rotate_left
      · intro W hSw
        (try dsimp only at hSw)
        go_simp
        try with_reducible rfl
      try simp only [List.getElem_toArray, List.getElem_cons_zero, List.getElem_cons_succ, Act.put, List.setIfInBounds_toArray, List.set_cons_zero, List.set_cons_succ]
      refine wpAnyH_ready (rs := [5]) (by kernel_rfl) (by simp) (AllReadyH.cons rfl (fun K hK => ?_) AllReadyH.nil)
      refine step_copy_run rfl (.tmp 50) (.tmp 53) 22 9 rfl _ _ rfl rfl _ _ hrun.out ?_
      refine hK.out _ _ bx7.out.cell (fun hHeld => ?_)
      clear hK
      try simp only [List.getElem_toArray, List.getElem_cons_zero, List.getElem_cons_succ, Act.put, List.setIfInBounds_toArray, List.set_cons_zero, List.set_cons_succ]
      refine wpAnyH_done (by kernel_rfl) ?_ _
      (try dsimp only [NoPanic])
      go_wp2_with fail
      refine bodyPost_ret (v := .tuple #[]) (by simp [results, Try.results40, go_sem]) rfl ?_
      exact ⟨rfl, ow7.out, hg7.out⟩
    · have hs := Lib.hid (Nm.inoSet_succ bs a n k)
      have hcell := hO.cell (a + k) (by rw [Nm.inoSet_len]; omega)
      have hfr := hO.frozen (a + k)
      obtain ⟨x, hx⟩ : ∃ x, (Nm.inoSet bs a n k)[a + k]'(by rw [Nm.inoSet_len]; omega) = x := ⟨_, rfl⟩
      rw [hx] at hcell
      unfold byteV at hcell
      clear hx
      replace hO := Lib.hid hO
      replace hX := Lib.hid hX
      replace hG := Lib.hid hG
      obtain rfl | rfl | rfl | rfl : k = 0 ∨ k = 1 ∨ k = 2 ∨ k = 3 := by omega
      all_goals
        (try simp only [Nat.add_zero] at hcell hfr)
        go_wp2
        go_roundw
        case rel =>
          first | (rw [bv24 n hn]; exact ⟨1, by omega, rfl, by rw [hs.out]; exact hO.out.set _ _, hX.out.far _ _ (by show g ≠ w.heap.size; omega), grown_set hG.out _ _⟩) | (rw [bv16]; exact ⟨2, by omega, rfl, by rw [hs.out]; exact hO.out.set _ _, hX.out.far _ _ (by show g ≠ w.heap.size; omega), grown_set hG.out _ _⟩) | (rw [bv8]; exact ⟨3, by omega, rfl, by rw [hs.out]; exact hO.out.set _ _, hX.out.far _ _ (by show g ≠ w.heap.size; omega), grown_set hG.out _ _⟩) | (rw [bv0]; exact ⟨4, by omega, rfl, by rw [hs.out]; exact hO.out.set _ _, hX.out.far _ _ (by show g ≠ w.heap.size; omega), grown_set hG.out _ _⟩)
        case measure => simp [intOf]
end Go.Proofs.Ytmlgjmcenjbbeaa
