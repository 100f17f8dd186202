/- A block's bytes: all of them, and laid anew. -/
import Derived.Test.YtlgjlhgdpiipbaaM
namespace Go.Proofs.Ytlgjlhgdpiipbaa
open Go.RowKit
def allOf (f : Nat → List UInt8) (m : Nat) : List UInt8 := (List.range m).flatMap f
theorem allOf_succ (f : Nat → List UInt8) (m : Nat) : allOf f (m + 1) = allOf f m ++ f m := by unfold allOf; rw [List.range_succ, List.flatMap_append]; simp
theorem allOf_len (f : Nat → List UInt8) : ∀ m, (∀ j, j < m → (f j).length = 288) → (allOf f m).length = m * 288
  | 0, _ => rfl
  | m + 1, h => by rw [allOf_succ, List.length_append, allOf_len f m (fun j hj => h j (by omega)), h m (by omega)]; omega
def piece (b : List UInt8) (j : Nat) : List UInt8 := (b.drop (j * 288)).take 288
theorem piece_len (b : List UInt8) (j m : Nat) (hb : b.length = m * 288) (hj : j < m) : (piece b j).length = 288 := by unfold piece; rw [List.length_take, List.length_drop]; omega
theorem piece_get (b : List UInt8) (j x : Nat) (h : x < (piece b j).length) (h2 : j * 288 + x < b.length) : (piece b j)[x] = b[j * 288 + x] := by
  have : (piece b j)[x]? = b[j * 288 + x]? := by
    have hx : x < 288 := by unfold piece at h; rw [List.length_take] at h; omega
    unfold piece
    rw [List.getElem?_take_of_lt hx, List.getElem?_drop]
  rw [List.getElem?_eq_getElem h, List.getElem?_eq_getElem h2] at this
  exact Option.some.inj this
/-- The pages behind lay. -/
def Chip.laid (st : Chip) (n : Nat) (b : List UInt8) : Nat → List UInt8 := fun x => if x < st.pn then piece b x else (st.blk n).pages x
def Chip.setPages (st : Chip) (n : Nat) (f : Nat → List UInt8) : Chip := st.setBlk n { st.blk n with pages := f }
theorem setPages_self (st : Chip) (n : Nat) : st.setPages n (st.blk n).pages = st := by
  unfold Chip.setPages Chip.setBlk
  have : (fun i => if i = n then st.blk n else st.blk i) = st.blk := by
    funext i
    split
    · rename_i e; rw [e]
    · rfl
  show { st with blk := fun i => if i = n then st.blk n else st.blk i } = st
  rw [this]
theorem setPages_page (st : Chip) (n j : Nat) (f : Nat → List UInt8) (l : List UInt8) : (st.setPages n f).setPage n j l = st.setPages n (fun x => if x = j then l else f x) := by
  unfold Chip.setPage Chip.setPages Chip.setBlk
  dsimp only
  rw [if_pos rfl]
  congr 1
  funext i
  split <;> rfl
theorem laid_step (b : List UInt8) (f : Nat → List UInt8) (j : Nat) : (fun x => if x = j then piece b j else (fun x => if x < j then piece b x else f x) x) = fun x => if x < j + 1 then piece b x else f x := by
  funext x
  by_cases e : x = j
  · subst e; simp
  · simp only [if_neg e]
    by_cases e2 : x < j
    · rw [if_pos e2, if_pos (by omega)]
    · rw [if_neg e2, if_neg (by omega)]
set_option maxRecDepth 100000 in
set_option maxHeartbeats 4000000 in
theorem all_any {Fm Fr : Nat → Prop} {c : Nat} {st : Chip} {L : Lay} {w : World} (h : ChipR w Fm Fr c st L) (n : Nat) (hn : n < st.bn) : Calls Try.prog 48 #[.pointer (some ⟨L.k n, 0, none⟩)] w fun e w' => ∃ v, e = .returned v ∧ w'.ownsRow w.heap.size 5 1 v (st.pn * 288) ((allOf (st.blk n).pages st.pn).map byteV) ∧ Below w.heap.size w w' := by
  obtain ⟨i0, hi0, hz0, hz1, hz2⟩ := info_parts infoByte
  have b0 := h.b0 hn
  have hbnd := h.bnd
  have hw := Lib.hid (fun (W : World) (hW : Below w.heap.size w W) => h.below hW)
  have hlen := h.len n hn
  clear h
  obtain ⟨f, hf⟩ : ∃ f, (st.blk n).pages = f := ⟨_, rfl⟩
  rw [hf] at hlen ⊢
  replace hf := Lib.hid hf
  go_enter Try.func48, Try.ntmps48
  go_wp2_with fail
  go_loopw [3, 11] (fun o i wr => ∃ j : Nat, j ≤ st.pn ∧ i = .int .i64 j ∧ wr.ownsRow w.heap.size 5 1 o (j * 288) ((allOf f j).map byteV) ∧ Below w.heap.size w wr) (fun _ i _ => st.pn - (intOf i).toNat)
  case atStart => exact ⟨0, by omega, rfl, by rw [Nat.zero_mul]; exact World.ownsRow_nil _ _ _ _, Below.refl _ _⟩
  case round =>
    clear b0
    obtain ⟨j, hj, rfl, hown, hB⟩ := hrel
    by_cases hlt : j < st.pn
    · have hc := hw.out wr hB
      have p0 := hc.pp hn hlt
      have hq := hc.byt n hn j hlt
      have hl := hlen j hlt
      rw [hf.out] at hq
      have hsn := allOf_succ f j
      obtain ⟨l, hle⟩ : ∃ l, f j = l := ⟨_, rfl⟩
      rw [hle] at hq hl hsn
      clear hc hle
      have hI0 : (0 : Int) ≤ (j : Int) := by omega
      have hI1 : (j : Int) < (st.pn : Int) := by omega
      have hsz := hB.size
      have hnews : ∀ x u, (l.map byteV)[x]? = some u → wr.cell? ((⟨L.q n j, 0, none⟩ : Addr).add x) = some u := fun x u hu => by
        have hadd : (⟨L.q n j, 0, none⟩ : Addr).add x = ⟨L.q n j, x, none⟩ := by unfold Addr.add; split <;> simp_all
        rw [List.getElem?_map] at hu
        obtain ⟨y, hy, rfl⟩ := Option.map_eq_some_iff.1 hu
        obtain ⟨hx, rfl⟩ := List.getElem?_eq_some_iff.1 hy
        rw [hadd]
        exact hq.get x _ (cellsB_get l x hx)
      have hone : ∀ u ∈ l.map byteV, u.oneCell' = true := fun u hu => by obtain ⟨y, _, rfl⟩ := List.mem_map.1 hu; rfl
      have hln : (l.map byteV).length = 288 * 1 := by rw [List.length_map, hl]
      replace hq := Lib.hid hq
      go_wp2_with (at_builtin; refine wpList_append_own _ rfl _ _ 65 rfl w.heap.size 5 i0 (.int .u8 0) 1 1 Try.underlying65 hi0 hz0 hz1 hz2 rfl (by decide) _ _ _ rfl hown ⟨L.q n j, 0, none⟩ 288 288 (l.map byteV) rfl hln hnews hone ?c3 ?c4 ?c5 ?_)
      case c3 => unfold maxLen; omega
      case c4 => omega
      case c5 => omega
      intro v' w1 hown1 hgrow _
      go_wp2_with fail
      go_roundw
      case rel => exact ⟨j + 1, by omega, by go_num, by rw [hsn, List.map_append, Nat.succ_mul]; exact hown1, hB.grown hgrow hsz (fun k hk => (hown.lt k hk).1)⟩
      case measure => simp [intOf]; omega
    · have hj' : j = st.pn := by omega
      subst hj'
      replace hown := Lib.hid hown
      replace hB := Lib.hid hB
      go_wp2_with fail
      go_ret
      exact ⟨_, rfl, hown.out, hB.out⟩
set_option maxRecDepth 100000 in
set_option maxHeartbeats 4000000 in
theorem lay_any {Fm Fr : Nat → Prop} {c : Nat} {st : Chip} {L : Lay} {w : World} (h : ChipR w Fm Fr c st L) (n : Nat) (hn : n < st.bn) (g cap : Nat) (b : List UInt8) (hO : OwnB w g cap b) (hg : ¬ Fm g) (hb : b.length = st.pn * 288) :
    Calls Try.prog 46 #[.pointer (some ⟨L.k n, 0, none⟩), .slice (some ⟨g, 0, none⟩) b.length cap] w fun e w' => e = .returned (.tuple #[]) ∧ ChipR w' Fm Fr c (st.setPages n (st.laid n b)) L ∧ Kept Fm w w' := by
  have b0 := h.b0 hn
  have hbnd := h.bnd
  have hgl := hO.lt
  have h0 : ChipR w Fm Fr c (st.setPages n (fun x => if x < 0 then piece b x else (st.blk n).pages x)) L := by
    have : (fun x => if x < 0 then piece b x else (st.blk n).pages x) = (st.blk n).pages := by funext x; simp
    rw [this, setPages_self]; exact h
  have hcap : b.length ≤ cap := by obtain ⟨_, _, _, hc, _⟩ := hO; exact hc
  have hOk := Lib.hid (fun (W : World) (hW : Kept Fm w W) => (show OwnB W g cap b by obtain ⟨cur, h1, h2⟩ := hO; exact ⟨cur, (hW.block g hgl hg).trans h1, h2⟩))
  have hpn : ∀ f, (st.setPages n f).pn = st.pn := fun f => rfl
  obtain ⟨bl, hbl⟩ : ∃ bl, b.length = bl := ⟨_, rfl⟩
  have hps : bl = st.pn * 288 := by rw [← hbl]; exact hb
  have hcl : bl ≤ cap := by omega
  rw [hbl]
  replace h0 := Lib.hid h0
  replace hps := Lib.hid hps
  replace hbl := Lib.hid hbl
  clear h hO
  go_enter Try.func46, Try.ntmps46
  go_wp2_with fail
  go_loopw [11] (fun i wr => ∃ j : Nat, j ≤ st.pn ∧ i = .int .i64 j ∧ ChipR wr Fm Fr c (st.setPages n (fun x => if x < j then piece b x else (st.blk n).pages x)) L ∧ Kept Fm w wr) (fun i _ => st.pn - (intOf i).toNat)
  case atStart => exact ⟨0, by omega, rfl, h0.out, Kept.refl _ _⟩
  case round =>
    clear h0 b0
    obtain ⟨j, hj, rfl, hc, hk⟩ := hrel
    by_cases hlt : j < st.pn
    · have p0 := hc.pp hn hlt
      have hq := hc.byt n hn j hlt
      have hl := hc.len n hn j hlt
      have hOw := hOk.out wr hk
      have hpl := piece_len b j st.pn hb hlt
      have hI0 : (0 : Int) ≤ (j : Int) := by omega
      have hI1 : (j : Int) < (st.pn : Int) := by omega
      have hj9 : j * 288 + 288 ≤ bl := by have := hps.out; have : (j + 1) * 288 ≤ st.pn * 288 := Nat.mul_le_mul_right _ (by omega); omega
      have hwr := show IntKind.i64.wrap ((j : Int) * 288) = (j : Int) * 288 by rw [IntKind.wrap_i64]; omega
      have hsl : ∀ W, (Instr.slice 65 (.slice (some ⟨g, 0, none⟩) bl cap) (some (.int .i64 ((j : Int) * 288))) none none).run Try.prog W = .ok (.slice (some ⟨g, j * 288, none⟩) (bl - j * 288) (cap - j * 288)) W := fun W => by
        rw [run_slice_l (P := Try.prog) W 65 (some ⟨g, 0, none⟩) bl cap (by kernel_rfl) .i64 ((j : Int) * 288) (by omega) (by omega)]
        rw [show (Go.sizeOf (Try.prog.elem 65)).run Try.prog W = .ok 1 W from by kernel_rfl]
        have e1 : ((j : Int) * 288).toNat = j * 288 := by omega
        have e2 : ¬ cap = j * 288 := by omega
        rw [e1]
        simp [Result.andThen, sliced, e2]
        unfold Addr.add
        split
        · rename_i e; rw [e]
        · simp
      obtain ⟨hcp, hbx, hgr⟩ := (Box.drew hq).copy 0 (piece b j) (by rw [hpl, hl]; omega) ⟨g, j * 288, none⟩ 288 288 (bl - j * 288) (cap - j * 288) (by rw [hpl]; exact (Nat.min_eq_right (by omega)).symm) (fun x hx => by
        rw [hpl] at hx
        have hadd : (⟨g, j * 288, none⟩ : Addr).add x = ⟨g, j * 288 + x, none⟩ := by unfold Addr.add; split <;> simp_all
        rw [hadd, (OwnB.drew hOw).cell (j * 288 + x) (by have := hbl.out; omega)]
        rw [piece_get b j x (by omega) (by have := hbl.out; omega)]) 3
      rw [splice_all _ _ (by rw [hpl, hl])] at hcp hbx hgr
      rw [hpl] at hcp
      have hcd : ChipR wr.drew Fm Fr c (st.setPages n (fun x => if x < j then piece b x else (st.blk n).pages x)) L := hc.below ((Below.refl _ _).drew)
      have hc2 := hcd.upd_bytes n j hn hlt (piece b j) hpl hbx hgr
      rw [setPages_page, laid_step] at hc2
      have hk2 := (hk.then ((Below.refl wr.heap.size wr).drew)).trans (Kept.of_grown (F := Fm) hgr (hc.fq n hn j hlt)) (fun _ hb => .inl hb)
      obtain ⟨W2, hW2⟩ : ∃ W2, wr.drew.setRow (L.q n j) (cellsB (piece b j)) = W2 := ⟨_, rfl⟩
      rw [hW2] at hcp hc2 hk2
      replace hcp := Lib.hid hcp
      replace hc2 := Lib.hid hc2
      replace hk2 := Lib.hid hk2
      clear hc hk hq hOw hbx hgr hcd hW2 hl
      go_wp2_with fail
      refine wp_region_noPanic ?_
      refine wp_region_held_drew (S := fun _ => True) (by kernel_rfl) (trivial) (fun hHeld => ?_)
      refine wpAnyH_take (i := 0) (v := ?_) rfl (by kernel_rfl) (by kernel_rfl) (by kernel_rfl) (fun _ _ _ h => h) (Or.inl ⟨rfl, ?_⟩) (by assumption) ?_
      rotate_left
      · intro W hSw
        (try dsimp only at hSw)
        go_simp
        try with_reducible rfl
      try simp only [List.getElem_toArray, List.getElem_cons_zero, List.getElem_cons_succ, Act.put, List.setIfInBounds_toArray, List.set_cons_zero, List.set_cons_succ]
      refine wpAnyH_take (i := 1) (v := ?_) rfl (by kernel_rfl) (by kernel_rfl) (by kernel_rfl) (fun _ _ _ h => h) (Or.inl ⟨rfl, ?_⟩) (by assumption) ?_
      rotate_left
      · intro W hSw
        (try dsimp only at hSw)
        go_simp
        try with_reducible rfl
      try simp only [List.getElem_toArray, List.getElem_cons_zero, List.getElem_cons_succ, Act.put, List.setIfInBounds_toArray, List.set_cons_zero, List.set_cons_succ]
      refine wpAnyH_take (i := 2) (v := ?_) rfl (by kernel_rfl) (by kernel_rfl) (by kernel_rfl) (fun _ _ _ h => h) (Or.inl ⟨rfl, ?_⟩) (by assumption) ?_
      rotate_left
      · intro W hSw
        (try dsimp only at hSw)
        go_simp
        try with_reducible rfl
      try simp only [List.getElem_toArray, List.getElem_cons_zero, List.getElem_cons_succ, Act.put, List.setIfInBounds_toArray, List.set_cons_zero, List.set_cons_succ]
      refine wpAnyH_take (i := 3) (v := ?_) rfl (by kernel_rfl) (by kernel_rfl) (by kernel_rfl) (fun _ _ _ h => h) (Or.inl ⟨rfl, ?_⟩) (by assumption) ?_
      rotate_left
      · intro W hSw
        (try dsimp only at hSw)
        go_simp
        try with_reducible rfl
      try simp only [List.getElem_toArray, List.getElem_cons_zero, List.getElem_cons_succ, Act.put, List.setIfInBounds_toArray, List.set_cons_zero, List.set_cons_succ]
      refine wpAnyH_take (i := 4) (v := ?_) rfl (by kernel_rfl) (by kernel_rfl) (by kernel_rfl) (fun _ _ _ h => h) (Or.inl ⟨rfl, ?_⟩) (by assumption) ?_
      rotate_left
      · intro W hSw
        (try dsimp only at hSw)
        go_simp
        try with_reducible rfl
      try simp only [List.getElem_toArray, List.getElem_cons_zero, List.getElem_cons_succ, Act.put, List.setIfInBounds_toArray, List.set_cons_zero, List.set_cons_succ]
      refine wpAnyH_take (i := 5) (v := ?_) rfl (by kernel_rfl) (by kernel_rfl) (by kernel_rfl) (fun _ _ _ h => h) (Or.inl ⟨rfl, ?_⟩) (by assumption) ?_
      rotate_left
      · intro W hSw
        (try dsimp only at hSw)
        go_simp
        try with_reducible rfl
      try simp only [List.getElem_toArray, List.getElem_cons_zero, List.getElem_cons_succ, Act.put, List.setIfInBounds_toArray, List.set_cons_zero, List.set_cons_succ]
      refine wpAnyH_take (i := 6) (v := ?_) rfl (by kernel_rfl) (by kernel_rfl) (by kernel_rfl) (fun _ _ _ h => h) (Or.inl ⟨rfl, ?_⟩) (by assumption) ?_
      rotate_left
      · intro W hSw
        (try dsimp only at hSw)
        go_simp
        try with_reducible rfl
      try simp only [List.getElem_toArray, List.getElem_cons_zero, List.getElem_cons_succ, Act.put, List.setIfInBounds_toArray, List.set_cons_zero, List.set_cons_succ]
      refine wpAnyH_ready (rs := [7]) (by kernel_rfl) (by simp) (AllReadyH.cons rfl (fun K hK => ?_) AllReadyH.nil)
      refine step_copy_run rfl (.tmp 18) (.tmp 22) 65 65 rfl _ _ rfl rfl _ _ hcp.out ?_
      refine hK.out _ _ trivial (fun hHeld => ?_)
      clear hK
      try simp only [List.getElem_toArray, List.getElem_cons_zero, List.getElem_cons_succ, Act.put, List.setIfInBounds_toArray, List.set_cons_zero, List.set_cons_succ]
      refine wpAnyH_done (by kernel_rfl) ?_ _
      (try dsimp only [NoPanic])
      go_wp2_with fail
      go_roundw
      case rel => exact ⟨j + 1, by omega, by go_num, hc2.out, hk2.out⟩
      case measure => simp [intOf]; omega
    · have hj' : j = st.pn := by omega
      subst hj'
      have hfin : ChipR wr Fm Fr c (st.setPages n (st.laid n b)) L := hc
      replace hfin := Lib.hid hfin
      replace hk := Lib.hid hk
      clear hc
      go_wp2_with fail
      refine bodyPost_end (v := .tuple #[]) (by simp [results, Try.results46, go_sem]) rfl ?_
      exact ⟨rfl, hfin.out, hk.out⟩
end Go.Proofs.Ytlgjlhgdpiipbaa
