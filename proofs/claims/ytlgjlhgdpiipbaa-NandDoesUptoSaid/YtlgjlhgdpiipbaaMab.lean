import Derived.Test.YtlgjlhgdpiipbaaMaa
import Derived.Lib.LazyBuf
import Derived.Laws.OwnMore
import Derived.OwnWalk
/- Blocks of bytes of the call's own; slices.Clone of any bytes. -/
namespace Go.Proofs.Ytlgjlhgdpiipbaa
open Go.RowKit
/-- Block g holds these bytes first. -/
def OwnB (W : World) (g cap : Nat) (bs : List UInt8) : Prop :=
  ∃ cur, W.heap[g]? = some (.cells cur 5 (0, 0)) ∧ cur.size = cap ∧ bs.length ≤ cap ∧ cur.toList.take bs.length = bs.map byteV
theorem OwnB.lt {W : World} {g cap : Nat} {bs : List UInt8} (h : OwnB W g cap bs) : g < W.heap.size := by
  obtain ⟨cur, h1, _⟩ := h; exact (Array.getElem?_eq_some_iff.1 h1).1
theorem OwnB.cell {W : World} {g cap : Nat} {bs : List UInt8} (h : OwnB W g cap bs) (j : Nat) (hj : j < bs.length) : W.cell? ⟨g, j, none⟩ = some (byteV bs[j]) := by
  obtain ⟨cur, h1, h2, h3, h4⟩ := h
  have : (cur.toList.take bs.length)[j]? = some (byteV bs[j]) := by rw [h4, List.getElem?_map, List.getElem?_eq_getElem hj]; rfl
  rw [List.getElem?_take_of_lt hj] at this
  simp [World.cell?, h1]
  simpa using this
theorem OwnB.frozen {W : World} {g cap : Nat} {bs : List UInt8} (h : OwnB W g cap bs) (j : Nat) : W.frozen? ⟨g, j, none⟩ = false := by
  obtain ⟨cur, h1, _⟩ := h
  simp [World.frozen?, h1]
theorem OwnB.set {W : World} {g cap : Nat} {bs : List UInt8} (h : OwnB W g cap bs) (j : Nat) (c : UInt8) : OwnB (W.setCell ⟨g, j, none⟩ (byteV c)) g cap (bs.set j c) := by
  obtain ⟨cur, h1, h2, h3, h4⟩ := h
  refine ⟨cur.setIfInBounds j (byteV c), by simp [World.setCell, Array.getElem?_modify, h1], by simpa using h2, by simpa using h3, ?_⟩
  rw [List.length_set, Array.toList_setIfInBounds, List.map_set, ← h4, List.take_set]
theorem OwnB.far {W : World} {g cap : Nat} {bs : List UInt8} (h : OwnB W g cap bs) (p : Addr) (v : Value) (hp : p.block ≠ g) : OwnB (W.setCell p v) g cap bs := by
  obtain ⟨cur, h1, h2⟩ := h
  exact ⟨cur, (Below.heap_setCell W p v g (fun e => hp e.symm)).trans h1, h2⟩
theorem OwnB.alloc {W : World} {g cap : Nat} {bs : List UInt8} (h : OwnB W g cap bs) (o : Obj) : OwnB (W.alloc o) g cap bs := by
  have hl := h.lt
  obtain ⟨cur, h1, h2⟩ := h
  exact ⟨cur, (Below.heap_alloc W o g hl).trans h1, h2⟩
theorem OwnB.below {W W' : World} {g cap : Nat} {bs : List UInt8} (h : OwnB W g cap bs) (hb : Below W.heap.size W W') : OwnB W' g cap bs := by
  have hl := h.lt
  obtain ⟨cur, h1, h2⟩ := h
  exact ⟨cur, (hb.block g hl).trans h1, h2⟩
theorem OwnB.drew {W : World} {g cap : Nat} {bs : List UInt8} (h : OwnB W g cap bs) : OwnB W.drew g cap bs := h
theorem OwnB.of_own {W : World} {B : Nat} {v : Value} {bs : List UInt8} (h : W.ownsRow B 5 1 v bs.length (bs.map byteV)) (hne : bs ≠ []) : ∃ g cap, v = .slice (some ⟨g, 0, none⟩) bs.length cap ∧ B ≤ g ∧ OwnB W g cap bs := by
  obtain ⟨h0, ⟨rfl, h1⟩ | ⟨g, cap, cur, rfl, hg, hh, hc, hm, hs, ht⟩⟩ := h
  · exact absurd (List.eq_nil_of_length_eq_zero h1) hne
  · exact ⟨g, cap, rfl, hg, cur, hh, by simpa using hs, hc, by simpa using ht⟩
theorem OwnB.rd {W : World} {g cap : Nat} {bs : List UInt8} (h : OwnB W g cap bs) : RdB W (.slice (some ⟨g, 0, none⟩) bs.length cap) bs := by
  have hc : bs.length ≤ cap := by obtain ⟨_, _, _, hc, _⟩ := h; exact hc
  refine ⟨_, cap, rfl, hc, fun j x hj => ⟨g, 0, rfl, h.lt, ?_⟩⟩
  have hlt := (List.getElem?_eq_some_iff.1 hj).1
  rw [Nat.zero_add, h.cell j hlt]
  rw [List.getElem?_eq_getElem hlt] at hj
  cases hj; rfl
theorem infoByte : (Try.prog.info? 5).map (fun i => (i.zero, i.size, i.bytes)) = some (some (.int .u8 0), 1, 1) := by kernel_rfl
/-- append of whatever reads as a list of bytes onto a slice of the call's own. -/
theorem wpList_append_rdb {P : Program} {w : World} {ops : Array Oper} {rest : List Oper} {o : Oper} {a : Act} {Q : Exit → Act → World → Prop} (hgd : o.guard = none) (s x : Operand) (t : TypeId)
    (ho : o.op = .call { callee := .builtin .append, args := #[s, x], argTypes := #[t, t] }) (base : Nat) (hbase : base ≤ w.heap.size)
    (e : TypeId) (i : TypeInfo) (z : Value) (bytes : Nat) (ht : P.underlying t = some (.slice e)) (hi : P.info? e = some i) (hz : i.zero = some z)
    (hsize : i.size = 1) (hby : i.bytes = bytes) (hzs : z.cells.size = 1)
    (v : Value) (n : Nat) (xs : List Value) (hs : a.eval s = v) (hown : w.ownsRow base e 1 v n xs) (l : List UInt8) (hl : l ≠ []) (u : Value) (hx : a.eval x = u) (hr : RdB w u l)
    (h63 : n + l.length ≤ maxLen) (hbytes : (n + l.length) * bytes ≤ 140737488355328)
    (h : ∀ v' w', w'.ownsRow base e 1 v' (n + l.length) (xs ++ l.map byteV) → w.grownBy w' v.ownBlock → wpList P ops Q rest (a.put o.dst v') w') : wpList P ops Q (o :: rest) a w := by
  obtain ⟨b, o', cap, rfl, hc, hb, hcell⟩ := hr.at hl
  refine wpList_plain hgd fun K hK => ?_
  obtain ⟨v', w', hrun, h2, h3, _⟩ := run_append_own_at (P := P) w base t o.type e i z 1 bytes ht hi hz hsize hby hzs (by decide) v n xs hown ⟨b, o', none⟩ l.length cap (l.map byteV) (by simp)
    (fun j u hu => by
      rw [List.getElem?_map] at hu
      obtain ⟨y, hy, rfl⟩ := Option.map_eq_some_iff.1 hu
      have hj := (List.getElem?_eq_some_iff.1 hy).1
      have he : (⟨b, o', none⟩ : Addr).add j = ⟨b, o' + j, none⟩ := by unfold Addr.add; split <;> simp_all
      rw [he, hcell j hj]
      rw [List.getElem?_eq_getElem hj] at hy
      cases hy; rfl)
    (fun u hu => by obtain ⟨y, _, rfl⟩ := List.mem_map.1 hu; rfl) h63 hbytes hbase
  unfold Oper.wp execOp
  simp only [ho, resolve, invoke, builtin, Sem.run_bind, Sem.run_pure, Result.andThen_ok, List.map_toArray, List.map_cons, List.map_nil, hs, hx, hrun]
  exact hK _ _ (h v' w' h2 h3)
theorem append_nothing {P : Program} (W : World) (t ty e : TypeId) (i : TypeInfo) (ht : P.underlying t = some (.slice e)) (hi : P.info? e = some i) (v : Value) (a b : Option Addr) (c d : Nat) (hv : v = .slice a 0 c) :
    (Builtin.append_ #[t, t] ty #[v, .slice b 0 d]).run P W = .ok v W := by
  subst hv
  rcases a with _ | a <;> rcases b with _ | b <;> simp [Builtin.append_, run_underlying ht, sizeOf, typeInfo, hi, Builtin.lenOf, Builtin.firstCells, storeCells, loadCells, loadCellsFrom, Result.andThen]
/-- A block that reads so. -/
def RdRes (bs : List UInt8) (w : World) (e : Ending) (w' : World) : Prop := ∃ u, e = .returned u ∧ RdB w' u bs ∧ (bs ≠ [] → ∃ g cap, u = .slice (some ⟨g, 0, none⟩) bs.length cap ∧ w.heap.size ≤ g ∧ OwnB w' g cap bs) ∧ Below w.heap.size w w'
set_option maxRecDepth 100000 in
set_option maxHeartbeats 4000000 in
theorem clone_any (bs : List UInt8) (v : Value) (w : World) (hr : RdB w v bs) (hl : bs.length ≤ 1048576) : Calls Try.prog 33 #[v] w (RdRes bs w) := by
  obtain ⟨i0, hi0, hz0, hz1, hz2⟩ := info_parts infoByte
  obtain ⟨a, cap, hv⟩ := hr.len
  subst hv
  have hle : bs.length ≤ cap := by obtain ⟨_, _, h1, h2, _⟩ := hr; cases h1; exact h2
  have heq := fun W => Lib.run_eql_slice_nil (P := Try.prog) W 65 5 a bs.length cap 0 0 Try.underlying65
  rcases a with _ | a
  · have h0 : bs = [] := by
      rcases bs with _ | ⟨c, bs⟩
      · rfl
      · obtain ⟨b, o, c, hv, _⟩ := hr.at (by simp)
        cases hv
    subst h0
    simp only [List.length_nil] at heq ⊢
    replace hr := Lib.hid hr
    go_enter Try.func33, Try.ntmps33
    go_wp2_with fail
    go_ret
    exact ⟨_, rfl, Rd.nil _ _, fun h => absurd rfl h, Below.refl _ _⟩
  · have hB1 := (Below.refl _ w).alloc (Nat.le_refl _) (.cells #[] 5)
    have hr1 := hr.below hB1
    have ho : (w.alloc (.cells #[] 5)).ownsRow w.heap.size 5 1 (.slice (some ⟨w.heap.size, 0, none⟩) 0 0) 0 [] := ⟨rfl, .inr ⟨w.heap.size, 0, #[], rfl, Nat.le_refl _, heap_alloc_new w _, Nat.le_refl _, by unfold maxLen; omega, rfl, rfl⟩⟩
    by_cases hne : bs = []
    · subst hne
      simp only [List.length_nil] at heq ⊢
      have happ := fun ty => append_nothing (P := Try.prog) (w.alloc (.cells #[] 5)) 65 ty 5 i0 Try.underlying65 hi0 (.slice (some ⟨w.heap.size, 0, none⟩) 0 0) _ (some a) 0 cap rfl
      have hfin : RdB (w.alloc (.cells #[] 5)) (.slice (some ⟨w.heap.size, 0, none⟩) 0 0) [] := ⟨_, 0, rfl, Nat.le_refl _, fun j x h => by simp at h⟩
      replace hr1 := Lib.hid hr1
      replace ho := Lib.hid ho
      replace hfin := Lib.hid hfin
      replace hB1 := Lib.hid hB1
      clear hr
      go_enter Try.func33, Try.ntmps33
      go_wp2_with fail
      go_ret
      exact ⟨_, rfl, hfin.out, fun h => absurd rfl h, hB1.out⟩
    · have hfin : ∀ (v' : Value) (w2 : World), w2.ownsRow w.heap.size 5 1 v' bs.length (bs.map byteV) → (w.alloc (.cells #[] 5)).grownBy w2 (some w.heap.size) → RdRes bs w (.returned v') w2 := fun v' w2 h1 h2 => by
        obtain ⟨g, c, rfl, hg, hO⟩ := OwnB.of_own h1 hne
        exact ⟨_, rfl, hO.rd, fun _ => ⟨g, c, rfl, hg, hO⟩, hB1.grown h2 (by rw [World.size_alloc]; omega) (fun k e => by cases e; exact Nat.le_refl _)⟩
      replace hr1 := Lib.hid hr1
      replace ho := Lib.hid ho
      replace hfin := Lib.hid hfin
      replace hne := Lib.hid hne
      replace hl := Lib.hid hl
      clear hr hB1
      go_enter Try.func33, Try.ntmps33
      go_wp2_with (at_builtin; refine wpList_append_rdb rfl _ _ 65 rfl w.heap.size (by rw [World.size_alloc]; omega) 5 i0 (.int .u8 0) 1 Try.underlying65 hi0 hz0 hz1 hz2 rfl _ 0 [] rfl ho.out bs hne.out _ rfl hr1.out (by have := hl.out; unfold maxLen; omega) (by have := hl.out; omega) ?_; intro v' w2 ho2 hg2)
      rw [Nat.zero_add, List.nil_append] at ho2
      go_ret
      exact hfin.out v' w2 ho2 hg2
end Go.Proofs.Ytlgjlhgdpiipbaa
/- seal.Mask and the reference's Mask. -/
namespace Go.Proofs.Ytlgjlhgdpiipbaa
open Go.RowKit
/-- Bytes in which those bits are 1, too, that a mask has. -/
def mask (l m : List UInt8) : List UInt8 := if m = [] then l else l.mapIdx fun i c => c ||| m.getD (i % m.length) 0
theorem mask_len (l m : List UInt8) : (mask l m).length = l.length := by unfold mask; split <;> simp
theorem mask_nil (l : List UInt8) : mask l [] = l := if_pos rfl
/-- The head masked, the rest as it was. -/
def maskTo (l m : List UInt8) (k : Nat) : List UInt8 := (mask l m).take k ++ l.drop k
theorem maskTo_len (l m : List UInt8) (k : Nat) (h : k ≤ l.length) : (maskTo l m k).length = l.length := by unfold maskTo; rw [List.length_append, List.length_take, List.length_drop, mask_len]; omega
theorem maskTo_zero (l m : List UInt8) : maskTo l m 0 = l := by unfold maskTo; simp
theorem maskTo_all (l m : List UInt8) : maskTo l m l.length = mask l m := by
  unfold maskTo; rw [List.drop_length, List.append_nil, List.take_of_length_le (by rw [mask_len]; exact Nat.le_refl _)]
theorem maskTo_get (l m : List UInt8) (k : Nat) (h : k < l.length) (h' : k < (maskTo l m k).length) : (maskTo l m k)[k] = l[k] := by
  have h1 : ((mask l m).take k).length = k := by rw [List.length_take, mask_len]; omega
  have : (maskTo l m k)[k]? = l[k]? := by
    unfold maskTo
    rw [List.getElem?_append_right (by omega), h1, Nat.sub_self, List.getElem?_drop]
    rfl
  rw [List.getElem?_eq_getElem h', List.getElem?_eq_getElem h] at this
  exact Option.some.inj this
theorem mask_get (l m : List UInt8) (k : Nat) (h : k < l.length) (hm : m ≠ []) (h' : k < (mask l m).length) : (mask l m)[k] = l[k] ||| m.getD (k % m.length) 0 := by
  unfold mask
  simp [hm]
theorem maskTo_set (l m : List UInt8) (k : Nat) (h : k < l.length) (hm : m ≠ []) : (maskTo l m k).set k (l[k] ||| m.getD (k % m.length) 0) = maskTo l m (k + 1) := by
  have hk : k < (mask l m).length := by rw [mask_len]; exact h
  have h1 : ((mask l m).take k).length = k := by rw [List.length_take]; omega
  unfold maskTo
  rw [List.set_append, if_neg (by omega), h1, Nat.sub_self, List.drop_eq_getElem_cons h, List.set_cons_zero, List.take_succ_eq_append_getElem hk, mask_get l m k h hm hk]
  simp
theorem maskTo_nil (l : List UInt8) (k : Nat) : maskTo l [] k = l := by unfold maskTo; rw [mask_nil, List.take_append_drop]
theorem or_u8 (c d : UInt8) : bits .or .u8 (c.toNat : Int) (d.toNat : Int) = ((c ||| d).toNat : Int) := by
  have h1 := c.toNat_lt
  have h2 := d.toNat_lt
  have h3 := (c ||| d).toNat_lt
  show IntKind.u8.wrap ((BitVec.ofInt 8 (c.toNat : Int) ||| BitVec.ofInt 8 (d.toNat : Int)).toNat : Int) = _
  rw [BitVec.toNat_or, BitVec.toNat_ofInt, BitVec.toNat_ofInt, UInt8.toNat_or]
  rw [UInt8.toNat_or] at h3
  have e1 : ((c.toNat : Int) % (2 ^ 8 : Nat)).toNat = c.toNat := by omega
  have e2 : ((d.toNat : Int) % (2 ^ 8 : Nat)).toNat = d.toNat := by omega
  rw [e1, e2]
  have hw : ∀ x : Int, 0 ≤ x → x < 256 → IntKind.u8.wrap x = x := fun x h0 h1 => by
    simp [IntKind.wrap, IntKind.bits, IntKind.signed]
    omega
  exact hw _ (by omega) (by omega)
/-- Bytes of the call's own. -/
def OwnRes (bs : List UInt8) (w : World) (e : Ending) (w' : World) : Prop := ∃ g cap, e = .returned (.slice (some ⟨g, 0, none⟩) bs.length cap) ∧ w.heap.size ≤ g ∧ OwnB w' g cap bs ∧ Below w.heap.size w w'
end Go.Proofs.Ytlgjlhgdpiipbaa
/- seal.Mask 47. -/
namespace Go.Proofs.Ytlgjlhgdpiipbaa
open Go.RowKit
theorem irem (a b : Nat) (hb : 0 < b) : Int.tmod (a : Int) (b : Int) = ((a % b : Nat) : Int) := by
  rw [Int.tmod_eq_emod_of_nonneg (by omega)]; rfl
set_option maxRecDepth 100000 in
set_option maxHeartbeats 4000000 in
theorem mask_any (l m : List UInt8) (v u : Value) (w : World) (hr : RdB w v l) (hu : RdB w u m) (hne : l ≠ []) (hl : l.length ≤ 1048576) (hm : m.length ≤ 1048576) : Calls Try.prog 47 #[v, u] w (OwnRes (mask l m) w) := by
  obtain ⟨ua, uc, hue⟩ := hu.len
  subst hue
  have hcl := Lib.hid (clone_any l v w hr hl)
  have huw := Lib.hid (fun (W : World) (hW : Below w.heap.size w W) => hu.below hW)
  clear hr hu
  go_enter Try.func47, Try.ntmps47
  go_wp2_with fail
  refine hcl.out.mono ?_
  rintro e w1 ⟨x, rfl, _, hx, hb1⟩
  obtain ⟨g, cap, rfl, hg, ho⟩ := hx hne
  clear hx hcl
  replace hb1 := Lib.hid hb1
  go_wp2_with fail
  have hlm := mask_len l m
  by_cases hm0 : m = []
  · subst hm0
    have hfin := Lib.hid (mask_nil l)
    go_loopw [11] (fun i wr => ∃ k : Nat, k ≤ l.length ∧ i = .int .i64 k ∧ OwnB wr g cap l ∧ Below w.heap.size w wr) (fun i _ => l.length - (intOf i).toNat)
    case atStart => exact ⟨0, by omega, rfl, ho, hb1.out⟩
    case round =>
      clear ho
      obtain ⟨k, hk, rfl, ho, hB⟩ := hrel
      replace ho := Lib.hid ho
      replace hB := Lib.hid hB
      by_cases hlt : k < l.length
      · have hI1 : (k : Int) < (l.length : Int) := by omega
        go_wp2_with fail
        go_roundw
        case rel => exact ⟨k + 1, by omega, by go_num, ho.out, hB.out⟩
        case measure => simp [intOf]; omega
      · have hk' : k = l.length := by omega
        subst hk'
        go_wp2_with fail
        go_ret
        exact ⟨g, cap, by rw [hlm]; rfl, hg, by rw [hfin.out]; exact ho.out, hB.out⟩
  · have hm1 : 0 < m.length := List.length_pos_iff.2 hm0
    have hmI : (0 : Int) < (m.length : Int) := by omega
    have h0 : OwnB w1 g cap (maskTo l m 0) := by rw [maskTo_zero]; exact ho
    clear ho
    replace h0 := Lib.hid h0
    go_loopw [11] (fun i wr => ∃ k : Nat, k ≤ l.length ∧ i = .int .i64 k ∧ OwnB wr g cap (maskTo l m k) ∧ Below w.heap.size w wr) (fun i _ => l.length - (intOf i).toNat)
    case atStart => exact ⟨0, by omega, rfl, h0.out, hb1.out⟩
    case round =>
      clear h0
      obtain ⟨k, hk, rfl, ho, hB⟩ := hrel
      by_cases hlt : k < l.length
      · have hl2 := maskTo_len l m k hk
        obtain ⟨bb, o, cc, hv, hcc, hbb, hcell⟩ := (huw.out wr hB).at hm0
        cases hv
        have hkm : k % m.length < m.length := Nat.mod_lt _ hm1
        have c1 := hcell (k % m.length) hkm
        have c0 := ho.cell k (by omega)
        rw [maskTo_get l m k hlt] at c0
        have hset := ho.set k (l[k] ||| m.getD (k % m.length) 0)
        rw [maskTo_set l m k hlt hm0] at hset
        rw [List.getD_eq_getElem?_getD, List.getElem?_eq_getElem hkm, Option.getD_some] at hset
        have hf := ho.frozen k
        have hB2 := hB.setCell (p := ⟨g, k, none⟩) hg (byteV (l[k] ||| m[k % m.length]))
        have hrem := irem k m.length hm1
        obtain ⟨x, hx⟩ : ∃ x, l[k] = x := ⟨_, rfl⟩
        obtain ⟨y, hy⟩ : ∃ y, m[k % m.length] = y := ⟨_, rfl⟩
        rw [hx, hy] at hset hB2
        rw [hx] at c0
        rw [hy] at c1
        clear hx hy hcell
        unfold byteV at c0 c1 hset hB2
        rw [← or_u8] at hset hB2
        have hI0 : (0 : Int) ≤ (k : Int) := by omega
        have hI1 : (k : Int) < (l.length : Int) := by omega
        have hI2 : ((k % m.length : Nat) : Int) < (m.length : Int) := by omega
        have hI3 : (0 : Int) ≤ ((k % m.length : Nat) : Int) := by omega
        replace hset := Lib.hid hset
        replace hB2 := Lib.hid hB2
        clear ho hB hl2
        go_wp2_with fail
        go_region
        go_wp2_with fail
        exact ⟨⟨k + 1, by omega, by go_num, hset.out.drew, Below.drew hB2.out⟩, by simp [intOf]; omega⟩
      · have hk' : k = l.length := by omega
        subst hk'
        rw [maskTo_all] at ho
        replace ho := Lib.hid ho
        replace hB := Lib.hid hB
        go_wp2_with fail
        go_ret
        exact ⟨g, cap, by rw [hlm]; rfl, hg, ho.out, hB.out⟩
end Go.Proofs.Ytlgjlhgdpiipbaa
/- The reference's Mask 63. -/
namespace Go.Proofs.Ytlgjlhgdpiipbaa
open Go.RowKit
theorem take_snoc (l : List UInt8) (k : Nat) (h : k < l.length) : (l.take (k + 1)).map byteV = (l.take k).map byteV ++ [byteV l[k]] := by
  rw [List.take_succ_eq_append_getElem h, List.map_append]; rfl
set_option maxRecDepth 100000 in
set_option maxHeartbeats 4000000 in
theorem maskr_any (l m : List UInt8) (v u : Value) (w : World) (hr : RdB w v l) (hu : RdB w u m) (hl : l.length ≤ 1048576) (hm : m.length ≤ 1048576) :
    Calls Try.prog 63 #[v, u] w fun e w' => ∃ x, e = .returned x ∧ w'.ownsRow w.heap.size 5 1 x l.length ((mask l m).map byteV) ∧ Below w.heap.size w w' := by
  obtain ⟨i0, hi0, hz0, hz1, hz2⟩ := info_parts infoByte
  obtain ⟨ua, uc, hue⟩ := hu.len
  obtain ⟨mn, hmn⟩ : ∃ mn, m.length = mn := ⟨_, rfl⟩
  rw [hmn] at hue hm
  subst hue
  replace hmn := Lib.hid hmn
  obtain ⟨va, vc, hve⟩ := hr.len
  subst hve
  have hrw := Lib.hid (fun (W : World) (hW : Below w.heap.size w W) => hr.below hW)
  have huw := Lib.hid (fun (W : World) (hW : Below w.heap.size w W) => hu.below hW)
  have hlm := Lib.hid (mask_len l m)
  clear hr hu
  go_enter Try.func63, Try.ntmps63
  go_wp2_with fail
  go_loopw [5, 6] (fun o i wr => ∃ k : Nat, k ≤ l.length ∧ i = .int .i64 k ∧ wr.ownsRow w.heap.size 5 1 o k (((mask l m).take k).map byteV) ∧ Below w.heap.size w wr) (fun _ i _ => l.length - (intOf i).toNat)
  case atStart => exact ⟨0, by omega, rfl, World.ownsRow_nil _ _ _ _, Below.refl _ _⟩
  case round =>
    obtain ⟨k, hk, rfl, hown, hB⟩ := hrel
    by_cases hlt : k < l.length
    · obtain ⟨b0, o0, q0, hv0, _, _, hcell0⟩ := (hrw.out wr hB).at (by intro e; rw [e] at hlt; simp at hlt)
      cases hv0
      have c0 := hcell0 k hlt
      have hkl : k < (mask l m).length := by rw [hlm.out]; exact hlt
      have hsn := Lib.hid (take_snoc (mask l m) k hkl)
      have hI0 : (0 : Int) ≤ (k : Int) := by omega
      have hI1 : (k : Int) < (l.length : Int) := by omega
      clear hcell0
      have hsz := hB.size
      by_cases hm0 : m = []
      · have hx : (mask l m)[k] = l[k] := List.getElem_of_eq (by rw [hm0, mask_nil]) _
        have hmn0 : mn = 0 := by rw [← hmn.out, hm0]; rfl
        have hmI : ¬ ((mn : Int) > 0) := by omega
        replace hm0 := Lib.hid hm0
        rw [hx] at hsn
        obtain ⟨x, hxe⟩ : ∃ x, l[k] = x := ⟨_, rfl⟩
        rw [hxe] at hsn
        replace c0 : wr.cell? ⟨b0, o0 + k, none⟩ = some (byteV x) := by rw [← hxe]; exact c0
        clear hxe hx
        unfold byteV at c0
        clear hmn0
        go_wp2_with (at_builtin; refine wpList_append_own _ rfl _ _ 65 rfl w.heap.size 5 i0 (.int .u8 0) 1 1 Try.underlying65 hi0 hz0 hz1 hz2 rfl (by decide) _ _ _ rfl (hown.alloc _) ⟨wr.heap.size, 0, none⟩ 1 1 [.int .u8 x.toNat] rfl rfl ?c1 ?c2 ?c3 ?c4 ?c5 ?_)
        case c2 => simp [Value.oneCell']
        case c3 => unfold maxLen; omega
        case c4 => omega
        case c5 => (first | omega | (simp; omega))
        intro v' w1 hown1 hgrow _
        go_wp2_with fail
        go_roundw
        case rel => exact ⟨k + 1, by omega, by go_num, by rw [hsn.out]; simpa [byteV, List.map_take] using hown1, below_push' hB (Nat.le_refl _) hown hgrow⟩
        case measure => simp [intOf]; omega
      · have hm1 : 0 < mn := by rw [← hmn.out]; exact List.length_pos_iff.2 hm0
        have hmI : (0 : Int) < (mn : Int) := by omega
        have hmz : ¬ mn = 0 := by omega
        obtain ⟨b2, o2, q2, hv2, _, _, hcell2⟩ := (huw.out wr hB).at hm0
        rw [hmn.out] at hv2
        cases hv2
        have hkm : k % mn < m.length := by rw [hmn.out]; exact Nat.mod_lt _ hm1
        have c1 := hcell2 (k % mn) hkm
        have hx : (mask l m)[k] = l[k] ||| m[k % mn] := by
          rw [mask_get l m k hlt hm0 hkl, hmn.out, List.getD_eq_getElem?_getD, List.getElem?_eq_getElem hkm, Option.getD_some]
        rw [hx] at hsn
        have hrem := irem k mn hm1
        obtain ⟨x, hxe⟩ : ∃ x, l[k] = x := ⟨_, rfl⟩
        obtain ⟨y, hye⟩ : ∃ y, m[k % mn] = y := ⟨_, rfl⟩
        rw [hxe, hye] at hsn
        rw [hxe] at c0
        rw [hye] at c1
        clear hxe hye hx hcell2
        unfold byteV at c0 c1
        have hor := or_u8 x y
        have hI2 : ((k % mn : Nat) : Int) < (mn : Int) := by have := Nat.mod_lt k hm1; omega
        have hI3 : (0 : Int) ≤ ((k % mn : Nat) : Int) := by omega
        go_wp2_with (at_builtin; refine wpList_append_own _ rfl _ _ 65 rfl w.heap.size 5 i0 (.int .u8 0) 1 1 Try.underlying65 hi0 hz0 hz1 hz2 rfl (by decide) _ _ _ rfl (hown.alloc _) ⟨wr.heap.size, 0, none⟩ 1 1 [.int .u8 ((x.toNat ||| y.toNat : Nat) : Int)] rfl rfl (World.news_of_block (cs := #[.int .u8 ((x.toNat ||| y.toNat : Nat) : Int)]) (t := 5) (fr := (0, 0)) (heap_alloc_new wr _)) ?c2 ?c3 ?c4 ?c5 ?_)
        case c2 => simp [Value.oneCell']
        case c3 => unfold maxLen; omega
        case c4 => omega
        case c5 => (first | omega | (simp; omega))
        intro v' w1 hown1 hgrow _
        go_wp2_with fail
        go_roundw
        case rel => exact ⟨k + 1, by omega, by go_num, by rw [hsn.out]; simpa [byteV, List.map_take] using hown1, below_push' hB (Nat.le_refl _) hown hgrow⟩
        case measure => simp [intOf]; omega
    · have hk' : k = l.length := by omega
      subst hk'
      rw [List.take_of_length_le (by rw [hlm.out]; exact Nat.le_refl _)] at hown
      replace hown := Lib.hid hown
      replace hB := Lib.hid hB
      go_wp2_with fail
      go_ret
      exact ⟨_, rfl, hown.out, hB.out⟩
end Go.Proofs.Ytlgjlhgdpiipbaa
/- A chip, plainly; how it lies in memory: blocks that its calls may change, and blocks that stay. -/
namespace Go.Proofs.Ytlgjlhgdpiipbaa
open Go.RowKit
/-- Nothing but some old blocks has changed. -/
structure Kept (F : Nat → Prop) (W W' : World) : Prop where
  os : W'.os = W.os
  tape : W'.tape = W.tape
  output : W'.output = W.output
  size : W.heap.size ≤ W'.heap.size
  block : ∀ b, b < W.heap.size → ¬ F b → W'.heap[b]? = W.heap[b]?
theorem Kept.refl (F : Nat → Prop) (W : World) : Kept F W W := ⟨rfl, rfl, rfl, Nat.le_refl _, fun _ _ _ => rfl⟩
theorem Kept.trans {F G : Nat → Prop} {A B C : World} (h : Kept F A B) (k : Kept G B C) (hg : ∀ b, G b → F b ∨ A.heap.size ≤ b) : Kept F A C :=
  ⟨k.os.trans h.os, k.tape.trans h.tape, k.output.trans h.output, Nat.le_trans h.size k.size, fun b hb hF => (k.block b (Nat.lt_of_lt_of_le hb h.size) (fun hG => by rcases hg b hG with h1 | h1; exact hF h1; omega)).trans (h.block b hb hF)⟩
theorem Kept.of_below {F : Nat → Prop} {W W' : World} (h : Below W.heap.size W W') : Kept F W W' := ⟨h.os, h.tape, h.output, h.size, fun b hb _ => h.block b hb⟩
theorem Kept.mono {F G : Nat → Prop} {W W' : World} (h : Kept F W W') (hg : ∀ b, F b → G b) : Kept G W W' := ⟨h.os, h.tape, h.output, h.size, fun b hb hG => h.block b hb (fun hF => hG (hg b hF))⟩
theorem Kept.below {F : Nat → Prop} {W W' : World} {B : Nat} (h : Kept F W W') (hF : ∀ b, F b → B ≤ b) (hB : B ≤ W.heap.size) : Below B W W' :=
  ⟨h.os, h.tape, h.output, h.size, fun b hb => h.block b (by omega) (fun hf => by have := hF b hf; omega)⟩
theorem Kept.of_grown {F : Nat → Prop} {W W' : World} {b : Nat} (h : W.grownBy W' (some b)) (hF : F b) : Kept F W W' :=
  ⟨h.os, h.tape, h.output, h.size, fun k hk hf => h.block k hk (fun e => by cases e; exact hf hF)⟩
theorem Kept.of_set {F : Nat → Prop} {W : World} (b j : Nat) (v : Value) (hF : F b) : Kept F W (W.setCell ⟨b, j, none⟩ v) :=
  ⟨rfl, rfl, rfl, by simp [World.setCell], fun k _ hf => Below.heap_setCell W ⟨b, j, none⟩ v k (fun e => by subst e; exact hf hF)⟩
theorem Box.kept {F : Nat → Prop} {W W' : World} {b : Nat} {t : TypeId} {vs : Array Value} (h : Box W b t vs) (hk : Kept F W W') (hF : ¬ F b) : Box W' b t vs := (hk.block b h.lt hF).trans h
theorem Box.ne {W : World} {a b : Nat} {t u : TypeId} {vs us : Array Value} (h : Box W a t vs) (k : Box W b u us) (hne : t ≠ u) : a ≠ b := by
  intro e; subst e
  have h : W.heap[a]? = some (.cells vs t (0, 0)) := h
  have k : W.heap[a]? = some (.cells us u (0, 0)) := k
  rw [h] at k
  cases k
  exact hne rfl
/-- These blocks are as they were. -/
def Same (R : Nat → Prop) (W W' : World) : Prop := (∀ b, R b → W'.heap[b]? = W.heap[b]?) ∧ W.heap.size ≤ W'.heap.size
theorem Same.refl (R : Nat → Prop) (W : World) : Same R W W := ⟨fun _ _ => rfl, Nat.le_refl _⟩
theorem Same.trans {R : Nat → Prop} {A B C : World} (h : Same R A B) (k : Same R B C) : Same R A C := ⟨fun b hb => (k.1 b hb).trans (h.1 b hb), Nat.le_trans h.2 k.2⟩
theorem Kept.same {F R : Nat → Prop} {W W' : World} (h : Kept F W W') (hR : ∀ b, R b → b < W.heap.size ∧ ¬ F b) : Same R W W' := ⟨fun b hb => h.block b (hR b hb).1 (hR b hb).2, h.size⟩
theorem Box.same {R : Nat → Prop} {W W' : World} {b : Nat} {t : TypeId} {vs : Array Value} (h : Box W b t vs) (hs : Same R W W') (hR : R b) : Box W' b t vs := (hs.1 b hR).trans h
/-- What is known of a block. -/
structure Look where
  wear : Int
  next : Int
  bad : Bool
def zeroLook : Look := ⟨0, 0, false⟩
def lookA (l : Look) : Array Value := #[.int .i64 l.wear, .int .i64 l.next, .bool l.bad]
def lookV (l : Look) : Value := .agg (lookA l)
structure Blk where
  pages : Nat → List UInt8
  look : Look
/-- What happens in the operation of a number. -/
structure Ev where
  at_ : Int
  kind : Int
  mask : List UInt8
structure Chip where
  bn : Nat
  pn : Nat
  blk : Nat → Blk
  evs : List Ev
  ops : Int
  off : Bool
def Chip.setBlk (st : Chip) (n : Nat) (b : Blk) : Chip := { st with blk := fun i => if i = n then b else st.blk i }
def ptr (b : Nat) : Value := .pointer (some ⟨b, 0, none⟩)
/-- Events, read; they lie in blocks that stay. -/
def EvS (W : World) (R : Nat → Prop) (v : Value) (evs : List Ev) : Prop :=
  ∃ a cap, v = .slice a evs.length cap ∧ evs.length ≤ cap ∧ ∀ j e, evs[j]? = some e → ∃ b o mv, a = some ⟨b, o, none⟩ ∧ b < W.heap.size ∧ R b ∧
    W.cell? ⟨b, o + j * 3, none⟩ = some (.int .i64 e.at_) ∧ W.cell? ⟨b, o + j * 3 + 1, none⟩ = some (.int .i64 e.kind) ∧ W.cell? ⟨b, o + j * 3 + 2, none⟩ = some mv ∧ ∀ W', Same R W W' → RdB W' mv e.mask
theorem cell_of_heap {W W' : World} {b : Nat} (h : W'.heap[b]? = W.heap[b]?) (o : Nat) : W'.cell? ⟨b, o, none⟩ = W.cell? ⟨b, o, none⟩ := by
  unfold World.cell?
  dsimp only
  rw [h]
theorem EvS.same {W W' : World} {R : Nat → Prop} {v : Value} {evs : List Ev} (h : EvS W R v evs) (hs : Same R W W') : EvS W' R v evs := by
  obtain ⟨a, cap, h1, h2, h3⟩ := h
  refine ⟨a, cap, h1, h2, fun j e he => ?_⟩
  obtain ⟨b, o, mv, k1, k2, k3, k4, k5, k6, k7⟩ := h3 j e he
  have hb := hs.1 b k3
  exact ⟨b, o, mv, k1, Nat.lt_of_lt_of_le k2 hs.2, k3, (cell_of_heap hb _).trans k4, (cell_of_heap hb _).trans k5, (cell_of_heap hb _).trans k6, fun W2 h2 => k7 W2 (hs.trans h2)⟩
theorem EvS.nil (W : World) (R : Nat → Prop) (a : Option Addr) (c : Nat) : EvS W R (.slice a 0 c) [] := ⟨a, c, rfl, Nat.zero_le _, fun j e h => by simp at h⟩
theorem EvS.tail {W : World} {R : Nat → Prop} {b o n cap : Nat} {e : Ev} {evs : List Ev} (h : EvS W R (.slice (some ⟨b, o, none⟩) n cap) (e :: evs)) (hc : cap ≠ 1) : EvS W R (.slice (some ⟨b, o + 3, none⟩) (n - 1) (cap - 1)) evs := by
  obtain ⟨a, cap', h1, h2, h3⟩ := h
  cases h1
  refine ⟨some ⟨b, o + 3, none⟩, cap - 1, by simp, by simp at h2; omega, fun j e' he => ?_⟩
  obtain ⟨b', o', mv, k1, k2, k3, k4, k5, k6, k7⟩ := h3 (j + 1) e' (by simpa using he)
  cases k1
  have e1 : o + (j + 1) * 3 = o + 3 + j * 3 := by omega
  rw [e1] at k4 k5 k6
  exact ⟨b, o + 3, mv, rfl, k2, k3, k4, k5, k6, k7⟩
/-- Where a chip's parts lie. -/
structure Lay where
  ba : Nat
  barr : Array Value
  ev : Value
  k : Nat → Nat
  p : Nat → Nat
  parr : Nat → Array Value
  q : Nat → Nat → Nat
def blkA (L : Lay) (st : Chip) (i : Nat) : Array Value := #[.slice (some ⟨L.p i, 0, none⟩) st.pn (L.parr i).size, .int .i64 (st.blk i).look.wear, .int .i64 (st.blk i).look.next, .bool (st.blk i).look.bad]
def chipA (L : Lay) (st : Chip) : Array Value := #[.int .i64 st.bn, .int .i64 st.pn, .slice (some ⟨L.ba, 0, none⟩) st.bn L.barr.size, L.ev, .int .i64 st.ops, .bool st.off]
/-- A chip in memory: Fm are the blocks that its calls may change, Fr those that stay. -/
structure ChipR (W : World) (Fm Fr : Nat → Prop) (c : Nat) (st : Chip) (L : Lay) : Prop where
  chip : Box W c 77 (chipA L st)
  row : Box W L.ba 81 L.barr
  rowAt : ∀ i, i < st.bn → L.barr[i]? = some (ptr (L.k i))
  blk : ∀ i, i < st.bn → Box W (L.k i) 84 (blkA L st i)
  prow : ∀ i, i < st.bn → Box W (L.p i) 85 (L.parr i)
  prowAt : ∀ i, i < st.bn → ∀ j, j < st.pn → (L.parr i)[j]? = some (ptr (L.q i j))
  byt : ∀ i, i < st.bn → ∀ j, j < st.pn → Box W (L.q i j) 110 (cellsB ((st.blk i).pages j))
  len : ∀ i, i < st.bn → ∀ j, j < st.pn → ((st.blk i).pages j).length = 288
  kinj : ∀ i, i < st.bn → ∀ i', i' < st.bn → L.k i = L.k i' → i = i'
  pinj : ∀ i, i < st.bn → ∀ i', i' < st.bn → L.p i = L.p i' → i = i'
  qinj : ∀ i, i < st.bn → ∀ j, j < st.pn → ∀ i', i' < st.bn → ∀ j', j' < st.pn → L.q i j = L.q i' j' → i = i' ∧ j = j'
  evs : EvS W Fr L.ev st.evs
  fc : Fm c
  fk : ∀ i, i < st.bn → Fm (L.k i)
  fp : ∀ i, i < st.bn → Fm (L.p i)
  fq : ∀ i, i < st.bn → ∀ j, j < st.pn → Fm (L.q i j)
  fba : Fr L.ba
  disj : ∀ b, Fm b → ¬ Fr b
  ltm : ∀ b, Fm b → b < W.heap.size
  ltr : ∀ b, Fr b → b < W.heap.size
  bnd : 0 < st.bn ∧ st.bn ≤ 256 ∧ 0 < st.pn ∧ st.pn ≤ 32
  opsb : 0 ≤ st.ops ∧ st.ops ≤ 1000000
theorem ChipR.same {W W' : World} {Fm Fr : Nat → Prop} {c : Nat} {st : Chip} {L : Lay} (h : ChipR W Fm Fr c st L) (hs : Same (fun b => Fm b ∨ Fr b) W W') : ChipR W' Fm Fr c st L where
  chip := h.chip.same hs (.inl h.fc)
  row := h.row.same hs (.inr h.fba)
  rowAt := h.rowAt
  blk i hi := (h.blk i hi).same hs (.inl (h.fk i hi))
  prow i hi := (h.prow i hi).same hs (.inl (h.fp i hi))
  prowAt := h.prowAt
  byt i hi j hj := (h.byt i hi j hj).same hs (.inl (h.fq i hi j hj))
  len := h.len
  kinj := h.kinj
  pinj := h.pinj
  qinj := h.qinj
  evs := h.evs.same ⟨fun b hb => hs.1 b (.inr hb), hs.2⟩
  fc := h.fc
  fk := h.fk
  fp := h.fp
  fq := h.fq
  fba := h.fba
  disj := h.disj
  ltm b hb := Nat.lt_of_lt_of_le (h.ltm b hb) hs.2
  ltr b hb := Nat.lt_of_lt_of_le (h.ltr b hb) hs.2
  bnd := h.bnd
  opsb := h.opsb
theorem ChipR.below {W W' : World} {Fm Fr : Nat → Prop} {c : Nat} {st : Chip} {L : Lay} (h : ChipR W Fm Fr c st L) (hb : Below W.heap.size W W') : ChipR W' Fm Fr c st L :=
  h.same ⟨fun b hF => hb.block b (by rcases hF with hF | hF; exact h.ltm b hF; exact h.ltr b hF), hb.size⟩
end Go.Proofs.Ytlgjlhgdpiipbaa
/- What a chip tells: made, there, asks, Geometry, Ops, On, Restart. -/
namespace Go.Proofs.Ytlgjlhgdpiipbaa
open Go.RowKit
/-- A value; nothing is made. -/
def ValQ (v : Value) (w : World) (e : Ending) (w' : World) : Prop := e = .returned v ∧ w' = w
section
variable {W : World} {Fm Fr : Nat → Prop} {c : Nat} {st : Chip} {L : Lay}
theorem ChipR.c0 (h : ChipR W Fm Fr c st L) : W.cell? ⟨c, 0, none⟩ = some (.int .i64 st.bn) := h.chip.get 0 _ rfl
theorem ChipR.c1 (h : ChipR W Fm Fr c st L) : W.cell? ⟨c, 1, none⟩ = some (.int .i64 st.pn) := h.chip.get 1 _ rfl
theorem ChipR.c2 (h : ChipR W Fm Fr c st L) : W.cell? ⟨c, 2, none⟩ = some (.slice (some ⟨L.ba, 0, none⟩) st.bn L.barr.size) := h.chip.get 2 _ rfl
theorem ChipR.c3 (h : ChipR W Fm Fr c st L) : W.cell? ⟨c, 3, none⟩ = some L.ev := h.chip.get 3 _ rfl
theorem ChipR.c4 (h : ChipR W Fm Fr c st L) : W.cell? ⟨c, 4, none⟩ = some (.int .i64 st.ops) := h.chip.get 4 _ rfl
theorem ChipR.c5 (h : ChipR W Fm Fr c st L) : W.cell? ⟨c, 5, none⟩ = some (.bool st.off) := h.chip.get 5 _ rfl
end
def Chip.there (st : Chip) (n : Int) : Bool := decide (0 ≤ n ∧ n < st.bn)
theorem Chip.there_yes {st : Chip} {n : Int} (h : 0 ≤ n) (h2 : n < st.bn) : st.there n = true := decide_eq_true ⟨h, h2⟩
theorem Chip.there_no {st : Chip} {n : Int} (h : ¬ (0 ≤ n ∧ n < st.bn)) : st.there n = false := decide_eq_false h
/-- What is wrong ahead of a call on a page. -/
def Chip.asks (st : Chip) (n page : Int) : Int :=
  if st.off then 8 else if st.there n = false ∨ page < 0 ∨ (st.pn : Int) ≤ page then 22 else 0
set_option maxRecDepth 100000 in
set_option maxHeartbeats 2000000 in
theorem made_any {Fm Fr : Nat → Prop} {c : Nat} {st : Chip} {L : Lay} {w : World} (h : ChipR w Fm Fr c st L) : Calls Try.prog 36 #[.pointer (some ⟨c, 0, none⟩)] w (ValQ (.bool true) w) := by
  have h2 := h.c2
  clear h
  go_enter Try.func36, Try.ntmps36
  go_wp2_with fail
  go_ret
  exact ⟨rfl, rfl⟩
set_option maxRecDepth 100000 in
set_option maxHeartbeats 2000000 in
theorem there_any {Fm Fr : Nat → Prop} {c : Nat} {st : Chip} {L : Lay} {w : World} (h : ChipR w Fm Fr c st L) (n : Int) : Calls Try.prog 31 #[.pointer (some ⟨c, 0, none⟩), .int .i64 n] w (ValQ (.bool (st.there n)) w) := by
  have h2 := h.c2
  clear h
  have hy := Lib.hid (@Chip.there_yes st n)
  have hn := Lib.hid (@Chip.there_no st n)
  obtain ⟨t, ht⟩ : ∃ t, st.there n = t := ⟨_, rfl⟩
  rw [ht] at hy hn ⊢
  clear ht
  by_cases h0 : 0 ≤ n
  · by_cases h1 : n < st.bn
    · obtain rfl := hy.out h0 h1
      go_enter Try.func31, Try.ntmps31
      go_wp2_with fail
      go_ret
      exact ⟨rfl, rfl⟩
    · obtain rfl := hn.out (fun h => h1 h.2)
      go_enter Try.func31, Try.ntmps31
      go_wp2_with fail
      go_ret
      exact ⟨rfl, rfl⟩
  · obtain rfl := hn.out (fun h => h0 h.1)
    go_enter Try.func31, Try.ntmps31
    go_wp2_with fail
    go_ret
    exact ⟨rfl, rfl⟩
set_option maxRecDepth 100000 in
set_option maxHeartbeats 2000000 in
theorem asks_any {Fm Fr : Nat → Prop} {c : Nat} {st : Chip} {L : Lay} {w : World} (h : ChipR w Fm Fr c st L) (n page : Int) : Calls Try.prog 44 #[.pointer (some ⟨c, 0, none⟩), .int .i64 n, .int .i64 page] w (ValQ (.int .i64 (st.asks n page)) w) := by
  have h5 := h.c5
  have h1 := h.c1
  have hm := Lib.hid (made_any h)
  have ht := Lib.hid (there_any h n)
  clear h
  have ha : st.asks n page = if st.off then 8 else if st.there n = false ∨ page < 0 ∨ (st.pn : Int) ≤ page then 22 else 0 := rfl
  obtain ⟨t, htt⟩ : ∃ t, st.there n = t := ⟨_, rfl⟩
  obtain ⟨o, hoo⟩ : ∃ o, st.off = o := ⟨_, rfl⟩
  obtain ⟨a, haa⟩ : ∃ a, st.asks n page = a := ⟨_, rfl⟩
  rw [htt] at ht ha
  rw [hoo] at h5 ha
  rw [haa] at ha ⊢
  clear htt hoo haa
  rcases o with _ | _
  case true =>
    obtain rfl : a = 8 := ha
    go_enter Try.func44, Try.ntmps44
    go_wp2_with (first | (go_at_call 36; (with_reducible refine hm.out.mono ?_); rintro e w' ⟨rfl, hw⟩; obtain rfl := hw.symm))
    go_ret
    exact ⟨rfl, rfl⟩
  rcases t with _ | _
  · obtain rfl : a = 22 := by rw [ha]; simp
    clear ha
    go_enter Try.func44, Try.ntmps44
    go_wp2_with (first | (go_at_call 36; (with_reducible refine hm.out.mono ?_); rintro e w' ⟨rfl, hw⟩; obtain rfl := hw.symm) | (go_at_call 31; (with_reducible refine ht.out.mono ?_); rintro e w' ⟨rfl, hw⟩; obtain rfl := hw.symm))
    go_ret
    exact ⟨rfl, rfl⟩
  by_cases hp : page < 0
  · obtain rfl : a = 22 := by rw [ha]; simp [hp]
    clear ha
    go_enter Try.func44, Try.ntmps44
    go_wp2_with (first | (go_at_call 36; (with_reducible refine hm.out.mono ?_); rintro e w' ⟨rfl, hw⟩; obtain rfl := hw.symm) | (go_at_call 31; (with_reducible refine ht.out.mono ?_); rintro e w' ⟨rfl, hw⟩; obtain rfl := hw.symm))
    go_ret
    exact ⟨rfl, rfl⟩
  by_cases hq : (st.pn : Int) ≤ page
  · obtain rfl : a = 22 := by rw [ha]; simp [hq]
    clear ha
    have hq' : page ≥ (st.pn : Int) := hq
    go_enter Try.func44, Try.ntmps44
    go_wp2_with (first | (go_at_call 36; (with_reducible refine hm.out.mono ?_); rintro e w' ⟨rfl, hw⟩; obtain rfl := hw.symm) | (go_at_call 31; (with_reducible refine ht.out.mono ?_); rintro e w' ⟨rfl, hw⟩; obtain rfl := hw.symm))
    go_ret
    exact ⟨rfl, rfl⟩
  · obtain rfl : a = 0 := by rw [ha]; simp [hp, hq]
    clear ha
    have hq' : ¬ page ≥ (st.pn : Int) := hq
    go_enter Try.func44, Try.ntmps44
    go_wp2_with (first | (go_at_call 36; (with_reducible refine hm.out.mono ?_); rintro e w' ⟨rfl, hw⟩; obtain rfl := hw.symm) | (go_at_call 31; (with_reducible refine ht.out.mono ?_); rintro e w' ⟨rfl, hw⟩; obtain rfl := hw.symm))
    go_ret
    exact ⟨rfl, rfl⟩
set_option maxRecDepth 100000 in
set_option maxHeartbeats 2000000 in
theorem ops_any {Fm Fr : Nat → Prop} {c : Nat} {st : Chip} {L : Lay} {w : World} (h : ChipR w Fm Fr c st L) : Calls Try.prog 18 #[.pointer (some ⟨c, 0, none⟩)] w (ValQ (.int .i64 st.ops) w) := by
  have h4 := h.c4
  have hm := Lib.hid (made_any h)
  clear h
  go_enter Try.func18, Try.ntmps18
  go_wp2_with (go_at_call 36; (with_reducible refine hm.out.mono ?_); rintro e w' ⟨rfl, hw⟩; obtain rfl := hw.symm)
  go_ret
  exact ⟨rfl, rfl⟩
set_option maxRecDepth 100000 in
set_option maxHeartbeats 2000000 in
theorem on_any {Fm Fr : Nat → Prop} {c : Nat} {st : Chip} {L : Lay} {w : World} (h : ChipR w Fm Fr c st L) : Calls Try.prog 16 #[.pointer (some ⟨c, 0, none⟩)] w (ValQ (.bool (!st.off)) w) := by
  have h5 := h.c5
  have hm := Lib.hid (made_any h)
  clear h
  go_enter Try.func16, Try.ntmps16
  go_wp2_with (go_at_call 36; (with_reducible refine hm.out.mono ?_); rintro e w' ⟨rfl, hw⟩; obtain rfl := hw.symm)
  go_ret
  exact ⟨rfl, rfl⟩
set_option maxRecDepth 100000 in
theorem res13 {W : World} {b : Nat} {x y : Int} (h : Box W b 23 #[.int .i64 x, .int .i64 y]) {tmps : Array Value} (h2 : tmps.getD 2 undef = .pointer (some ⟨b, 0, none⟩)) :
    (results Try.f13 tmps).run Try.prog W = .ok (.agg #[.int .i64 x, .int .i64 y]) W := by
  have d0 := h.get 0 _ rfl
  have d1 := h.get 1 _ rfl
  simp at h2
  simp [results, Try.results13, go_sem, h2, d0, d1]
set_option maxRecDepth 100000 in
set_option maxHeartbeats 2000000 in
theorem geo_any {Fm Fr : Nat → Prop} {c : Nat} {st : Chip} {L : Lay} {w : World} (h : ChipR w Fm Fr c st L) : Calls Try.prog 13 #[.pointer (some ⟨c, 0, none⟩)] w fun e w' => e = .returned (.agg #[.int .i64 st.bn, .int .i64 st.pn]) ∧ Below w.heap.size w w' := by
  have hB := (Below.refl w.heap.size w).alloc (Nat.le_refl _) (.cells #[.int .i64 0, .int .i64 0] 23)
  have h' := h.below ((Below.refl w.heap.size w).alloc (Nat.le_refl _) (.cells #[.int .i64 0, .int .i64 0] 23))
  have h0 := h'.c0
  have h1 := h'.c1
  have hm := Lib.hid (made_any h')
  have bx := Box.new w 23 #[.int .i64 0, .int .i64 0]
  clear h h'
  obtain ⟨W0, hW0⟩ : ∃ W0, w.alloc (.cells #[.int .i64 0, .int .i64 0] 23) = W0 := ⟨_, rfl⟩
  rw [hW0] at hB h0 h1 hm bx
  have d0 := bx.get 0 _ rfl
  have d1 := bx.get 1 _ rfl
  have f0 := bx.frozen 0
  have f1 := bx.frozen 1
  have bx2 := Lib.hid (((bx.set 0 (.int .i64 st.bn)).set 1 (.int .i64 st.pn)))
  have hB2 := Lib.hid ((hB.setCell (p := ⟨w.heap.size, 0, none⟩) (Nat.le_refl _) (.int .i64 st.bn)).setCell (p := ⟨w.heap.size, 1, none⟩) (Nat.le_refl _) (.int .i64 st.pn))
  clear bx hB
  go_enter Try.func13, Try.ntmps13
  go_wp2_with (go_at_call 36; (with_reducible refine hm.out.mono ?_); rintro e w' ⟨rfl, hw⟩; obtain rfl := hw.symm)
  exact bodyPost_ret (res13 bx2.out rfl) rfl ⟨rfl, hB2.out⟩
end Go.Proofs.Ytlgjlhgdpiipbaa
/- Look and Read of a chip. -/
namespace Go.Proofs.Ytlgjlhgdpiipbaa
open Go.RowKit
def Chip.lookAt (st : Chip) (n : Int) : Look × Int := if st.there n then ((st.blk n.toNat).look, 0) else (zeroLook, 22)
def Chip.readAt (st : Chip) (n page : Int) : List UInt8 × Int := if st.asks n page = 0 then ((st.blk n.toNat).pages page.toNat, 0) else (rep 288 0, st.asks n page)
theorem Chip.there_nat {st : Chip} {n : Int} (h : st.there n = true) : ∃ i : Nat, n = i ∧ i < st.bn := by
  unfold Chip.there at h
  have h := of_decide_eq_true h
  exact ⟨n.toNat, by omega, by omega⟩
theorem Chip.asks_ok {st : Chip} {n page : Int} (h : st.asks n page = 0) : st.off = false ∧ st.there n = true ∧ ∃ i j : Nat, n = i ∧ i < st.bn ∧ page = j ∧ j < st.pn := by
  unfold Chip.asks at h
  split at h
  · cases h
  · rename_i ho
    split at h
    · cases h
    · rename_i hn
      have h1 : st.there n = true := by
        rcases hh : st.there n with _ | _
        · exact absurd (.inl hh) hn
        · rfl
      obtain ⟨i, hi, hi2⟩ := Chip.there_nat h1
      have h2 : ¬ page < 0 := fun h => hn (.inr (.inl h))
      have h3 : ¬ (st.pn : Int) ≤ page := fun h => hn (.inr (.inr h))
      exact ⟨by simpa using ho, h1, i, page.toNat, hi, hi2, by omega, by omega⟩
section
variable {W : World} {Fm Fr : Nat → Prop} {c : Nat} {st : Chip} {L : Lay}
theorem ChipR.r (h : ChipR W Fm Fr c st L) {i : Nat} (hi : i < st.bn) : W.cell? ⟨L.ba, i, none⟩ = some (.pointer (some ⟨L.k i, 0, none⟩)) := h.row.get i _ (h.rowAt i hi)
theorem ChipR.b0 (h : ChipR W Fm Fr c st L) {i : Nat} (hi : i < st.bn) : W.cell? ⟨L.k i, 0, none⟩ = some (.slice (some ⟨L.p i, 0, none⟩) st.pn (L.parr i).size) := (h.blk i hi).get 0 _ rfl
theorem ChipR.b1 (h : ChipR W Fm Fr c st L) {i : Nat} (hi : i < st.bn) : W.cell? ⟨L.k i, 1, none⟩ = some (.int .i64 (st.blk i).look.wear) := (h.blk i hi).get 1 _ rfl
theorem ChipR.b2 (h : ChipR W Fm Fr c st L) {i : Nat} (hi : i < st.bn) : W.cell? ⟨L.k i, 2, none⟩ = some (.int .i64 (st.blk i).look.next) := (h.blk i hi).get 2 _ rfl
theorem ChipR.b3 (h : ChipR W Fm Fr c st L) {i : Nat} (hi : i < st.bn) : W.cell? ⟨L.k i, 3, none⟩ = some (.bool (st.blk i).look.bad) := (h.blk i hi).get 3 _ rfl
theorem ChipR.pp (h : ChipR W Fm Fr c st L) {i j : Nat} (hi : i < st.bn) (hj : j < st.pn) : W.cell? ⟨L.p i, j, none⟩ = some (.pointer (some ⟨L.q i j, 0, none⟩)) := (h.prow i hi).get j _ (h.prowAt i hi j hj)
end
set_option maxRecDepth 100000 in
theorem res15 {W : World} {b : Nat} {l : Look} {n : Int} (h : Box W b 42 (lookA l)) {tmps : Array Value} (h4 : tmps.getD 4 undef = .pointer (some ⟨b, 0, none⟩)) (h5 : tmps.getD 5 undef = .int .i64 n) :
    (results Try.f15 tmps).run Try.prog W = .ok (.tuple #[lookV l, .int .i64 n]) W := by
  have d0 := h.get 0 _ rfl
  have d1 := h.get 1 _ rfl
  have d2 := h.get 2 _ rfl
  simp at h4 h5
  simp [results, Try.results15, go_sem, h4, h5, d0, d1, d2, lookV, lookA]
set_option maxRecDepth 100000 in
set_option maxHeartbeats 2000000 in
theorem look_any {Fm Fr : Nat → Prop} {c : Nat} {st : Chip} {L : Lay} {w : World} (h : ChipR w Fm Fr c st L) (n : Int) : Calls Try.prog 15 #[.pointer (some ⟨c, 0, none⟩), .int .i64 n] w fun e w' => e = .returned (.tuple #[lookV (st.lookAt n).1, .int .i64 (st.lookAt n).2]) ∧ Below w.heap.size w w' := by
  have hB := (Below.refl w.heap.size w).alloc (Nat.le_refl _) (.cells #[.int .i64 0, .int .i64 0, .bool false] 42)
  have h' := h.below ((Below.refl w.heap.size w).alloc (Nat.le_refl _) (.cells #[.int .i64 0, .int .i64 0, .bool false] 42))
  have hm := Lib.hid (made_any h')
  have ht := Lib.hid (there_any h' n)
  have bx := Box.new w 42 #[.int .i64 0, .int .i64 0, .bool false]
  have h2 := h'.c2
  obtain ⟨W0, hW0⟩ : ∃ W0, w.alloc (.cells #[.int .i64 0, .int .i64 0, .bool false] 42) = W0 := ⟨_, rfl⟩
  rw [hW0] at hB h2 hm ht bx h'
  have d0 := bx.get 0 _ rfl
  have d1 := bx.get 1 _ rfl
  have d2 := bx.get 2 _ rfl
  have f0 := bx.frozen 0
  have f1 := bx.frozen 1
  have f2 := bx.frozen 2
  have hfin := fun (l : Look) => ((bx.set 0 (.int .i64 l.wear)).set 1 (.int .i64 l.next)).set 2 (.bool l.bad)
  have hBf := fun (l : Look) => ((hB.setCell (p := ⟨w.heap.size, 0, none⟩) (Nat.le_refl _) (.int .i64 l.wear)).setCell (p := ⟨w.heap.size, 1, none⟩) (Nat.le_refl _) (.int .i64 l.next)).setCell (p := ⟨w.heap.size, 2, none⟩) (Nat.le_refl _) (.bool l.bad)
  rcases hth : st.there n with _ | _
  · have hl : st.lookAt n = (zeroLook, 22) := by unfold Chip.lookAt; rw [hth]; rfl
    rw [hl]
    rw [hth] at ht
    have bf := Lib.hid (hfin zeroLook)
    have hb := Lib.hid (hBf zeroLook)
    clear h h' hl hth hfin hBf bx hB
    go_enter Try.func15, Try.ntmps15
    go_wp2_with (first | (go_at_call 36; (with_reducible refine hm.out.mono ?_); rintro e w' ⟨rfl, hw⟩; obtain rfl := hw.symm) | (go_at_call 31; (with_reducible refine ht.out.mono ?_); rintro e w' ⟨rfl, hw⟩; obtain rfl := hw.symm))
    exact bodyPost_ret (res15 (l := zeroLook) bf.out rfl rfl) rfl ⟨rfl, hb.out⟩
  · obtain ⟨i, rfl, hi⟩ := Chip.there_nat hth
    have hl : st.lookAt (i : Int) = ((st.blk i).look, 0) := by unfold Chip.lookAt; rw [hth, if_pos rfl]; rfl
    rw [hl]
    rw [hth] at ht
    have r0 := h'.r hi
    have b1 := h'.b1 hi
    have b2 := h'.b2 hi
    have b3 := h'.b3 hi
    have hI : (i : Int) < (st.bn : Int) := by omega
    have hI0 : (0 : Int) ≤ (i : Int) := by omega
    obtain ⟨l, hlk⟩ : ∃ l, (st.blk i).look = l := ⟨_, rfl⟩
    rw [hlk] at b1 b2 b3 ⊢
    have bf := Lib.hid (hfin l)
    have hb := Lib.hid (hBf l)
    clear h h' hl hth hfin hBf bx hB hlk
    go_enter Try.func15, Try.ntmps15
    go_wp2_with (first | (go_at_call 36; (with_reducible refine hm.out.mono ?_); rintro e w' ⟨rfl, hw⟩; obtain rfl := hw.symm) | (go_at_call 31; (with_reducible refine ht.out.mono ?_); rintro e w' ⟨rfl, hw⟩; obtain rfl := hw.symm))
    exact bodyPost_ret (res15 (l := l) bf.out rfl rfl) rfl ⟨rfl, hb.out⟩
set_option maxRecDepth 100000 in
theorem res29 {W : World} {b : Nat} {t : TypeId} {l : List UInt8} {n : Int} (h : Box W b t (cellsB l)) (hl : l.length = 288) {tmps : Array Value} (h6 : tmps.getD 6 undef = .pointer (some ⟨b, 0, none⟩)) (h7 : tmps.getD 7 undef = .int .i64 n) :
    (results Try.f29 tmps).run Try.prog W = .ok (.tuple #[pgV l, .int .i64 n]) W := by
  have h3 := h.loadPg hl
  simp at h6 h7
  simp [results, Try.results29, asAddr, h6, h7, h3]
set_option maxRecDepth 100000 in
set_option maxHeartbeats 2000000 in
theorem read_any {Fm Fr : Nat → Prop} {c : Nat} {st : Chip} {L : Lay} {w : World} (h : ChipR w Fm Fr c st L) (n page : Int) : Calls Try.prog 29 #[.pointer (some ⟨c, 0, none⟩), .int .i64 n, .int .i64 page] w fun e w' => e = .returned (.tuple #[pgV (st.readAt n page).1, .int .i64 (st.readAt n page).2]) ∧ Below w.heap.size w w' := by
  have hz := zero48
  have hB := (Below.refl w.heap.size w).alloc (Nat.le_refl _) (.cells (cellsB (rep 288 0)) 48)
  have h' := h.below ((Below.refl w.heap.size w).alloc (Nat.le_refl _) (.cells (cellsB (rep 288 0)) 48))
  have ha := Lib.hid (asks_any h' n page)
  have bx := Box.new w 48 (cellsB (rep 288 0))
  have h2 := h'.c2
  obtain ⟨W0, hW0⟩ : ∃ W0, w.alloc (.cells (cellsB (rep 288 0)) 48) = W0 := ⟨_, rfl⟩
  rw [hW0] at hB h2 ha bx h'
  have hst := fun (W : World) (hW : Below W0.heap.size W0 W) (l : List UInt8) (hl : l.length = 288) => (bx.below hW).storePg (l := l) (by simp) hl
  have hBf := fun (W : World) (hW : Below W0.heap.size W0 W) => hB.trans (hW.mono hB.size)
  by_cases h0 : st.asks n page = 0
  case neg =>
    have hl : st.readAt n page = (rep 288 0, st.asks n page) := by unfold Chip.readAt; rw [if_neg h0]
    rw [hl]
    obtain ⟨a, haa⟩ : ∃ a, st.asks n page = a := ⟨_, rfl⟩
    rw [haa] at ha h0 ⊢
    have hn : (a != 0) = true := by simpa using h0
    obtain ⟨hst0, b5, hg⟩ := hst W0 (Below.refl _ _) (rep 288 0) (by simp)
    have hB5 := Lib.hid (hB.grown hg hB.size (fun k e => by cases e; exact Nat.le_refl _))
    replace b5 := Lib.hid b5
    clear h h' hl h0 hst hBf bx hB haa hg h2
    unfold pgV at hst0
    go_enter Try.func29, Try.ntmps29
    go_wp2_with (first | (go_at_call 44; (with_reducible refine ha.out.mono ?_); rintro e w' ⟨rfl, hw⟩; obtain rfl := hw.symm) | (refine wpList_store_var rfl 48 _ _ rfl _ rfl _ rfl hst0 ?_))
    exact bodyPost_ret (res29 b5.out (rep_len 288 0) rfl rfl) rfl ⟨rfl, hB5.out⟩
  · obtain ⟨ho, hth, i, j, rfl, hi, rfl, hj⟩ := Chip.asks_ok h0
    have hl : st.readAt (i : Int) (j : Int) = ((st.blk i).pages j, 0) := by unfold Chip.readAt; rw [if_pos h0]; rfl
    rw [hl]
    rw [h0] at ha
    have r0 := h'.r hi
    have b0 := h'.b0 hi
    have p0 := h'.pp hi hj
    have hpl := h'.len i hi j hj
    have hq := h'.byt i hi j hj
    have hI : (i : Int) < (st.bn : Int) := by omega
    have hI0 : (0 : Int) ≤ (i : Int) := by omega
    have hJ : (j : Int) < (st.pn : Int) := by omega
    have hJ0 : (0 : Int) ≤ (j : Int) := by omega
    obtain ⟨l, hll⟩ : ∃ l, (st.blk i).pages j = l := ⟨_, rfl⟩
    rw [hll] at hpl hq ⊢
    have h38 := Lib.hid (bpage_any l (L.q i j) 110 W0 hq hpl)
    replace hst := Lib.hid (fun W hW => hst W hW l hpl)
    replace hBf := Lib.hid hBf
    clear h h' hl h0 hth ho hll hB bx hq
    go_enter Try.func29, Try.ntmps29
    go_wp2_with (first | (go_at_call 44; (with_reducible refine ha.out.mono ?_); rintro e w' ⟨rfl, hw⟩; obtain rfl := hw.symm) | (go_at_call 38; (with_reducible refine h38.out.mono ?_); rintro e w5 ⟨rfl, hw5⟩; obtain ⟨hst0, b5, hg⟩ := hst.out w5 hw5; have hB5 := Lib.hid ((hBf.out w5 hw5).grown hg (hBf.out w5 hw5).size (fun k e => by cases e; exact Nat.le_refl _)); replace b5 := Lib.hid b5; clear hg hw5) | (refine wpList_store_var rfl 48 _ _ rfl _ rfl _ rfl hst0 ?_))
    exact bodyPost_ret (res29 b5.out hpl rfl rfl) rfl ⟨rfl, hB5.out⟩
end Go.Proofs.Ytlgjlhgdpiipbaa
