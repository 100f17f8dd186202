import Derived.Test.YtlgjlhgdpiipbaaMaq
import Derived.Test.YtlgjlhgdpiipbaaMas
/- The reference's Masked. -/
namespace Go.Proofs.Ytlgjlhgdpiipbaa
open Go.RowKit
/-- Pages in a row, masked, in a row of the call's own. -/
def MaskRes (f : Nat → List UInt8) (n : Nat) (m : List UInt8) (w : World) (e : Ending) (w' : World) : Prop :=
  ∃ g cap, e = .returned (.slice (some ⟨g, 0, none⟩) n cap) ∧ w'.ownsRow w.heap.size 48 288 (.slice (some ⟨g, 0, none⟩) n cap) n (((List.range n).map (piece (mask (allOf f n) m))).flatMap pgL) ∧ Below w.heap.size w w'
theorem append_bytes {W : World} {B : Nat} (hB : B ≤ W.heap.size) {v : Value} {n : Nat} {xs : List Value} (ho : W.ownsRow B 5 1 v n xs) (a o : Nat) (l : List UInt8) (hc : ∀ j u, (l.map byteV)[j]? = some u → W.cell? ⟨a, o + j, none⟩ = some u) (hn : n < 100000) (hl : l.length < 100000) (ty : TypeId) :
    ∃ v' w', (Builtin.append_ #[65, 65] ty #[v, .slice (some ⟨a, o, none⟩) l.length l.length]).run Try.prog W = .ok v' w' ∧ w'.ownsRow B 5 1 v' (n + l.length) (xs ++ l.map byteV) ∧ W.grownBy w' v.ownBlock := by
  obtain ⟨i0, hi0, hz0, hz1, hz2⟩ := info_parts infoByte
  obtain ⟨v', w', hr, h2, h3, _⟩ := run_append_own_at (P := Try.prog) W B 65 ty 5 i0 (.int .u8 0) 1 1 Try.underlying65 hi0 hz0 hz1 hz2 rfl (by decide) v n xs ho ⟨a, o, none⟩ l.length l.length (l.map byteV) (by simp)
    (fun j u hu => by rw [show (⟨a, o, none⟩ : Addr).add j = ⟨a, o + j, none⟩ from by unfold Addr.add; split <;> simp_all]; exact hc j u hu)
    (fun u hu => by obtain ⟨y, _, rfl⟩ := List.mem_map.1 hu; rfl) (by unfold maxLen; omega) (by omega) hB
  exact ⟨v', w', hr, h2, h3⟩
theorem slice65 (g n cap k : Nat) (hk : k < n) (hc : n ≤ cap) (W : World) : (Instr.slice 65 (.slice (some ⟨g, 0, none⟩) n cap) (some (.int .i64 (k : Int))) none none).run Try.prog W = .ok (.slice (some ⟨g, k, none⟩) (n - k) (cap - k)) W := by
  rw [run_slice_l (P := Try.prog) W 65 (some ⟨g, 0, none⟩) n cap (by kernel_rfl) .i64 (k : Int) (by omega) (by omega)]
  rw [show (Go.sizeOf (Try.prog.elem 65)).run Try.prog W = .ok 1 W from by kernel_rfl]
  have h1 : ¬ (cap = k) := by omega
  by_cases h0 : k = 0 <;> simp [Result.andThen, sliced, h1, h0, Addr.add] <;> omega
theorem exec_slice {ev : Operand → Value} {o : Oper} {W : World} (x y : Operand) (ho : o.op = Op.slice 65 x (some y) none none) (va : Option Addr) (vn vc : Nat) (k : Value) (hx : ev x = .slice va vn vc) (hy : ev y = k) (r : Value) (hl : (Instr.slice 65 (.slice va vn vc) (some k) none none).run Try.prog W = .ok r W) : (execOp ev o).run Try.prog W = .ok (.value r) W := by
  simp [execOp, ho, hx, hy, Instr.sliceAt, hl, Result.andThen]
set_option maxRecDepth 100000 in
set_option maxHeartbeats 16000000 in
theorem masked_any (f : Nat → List UInt8) (n : Nat) (m : List UInt8) (a o cap : Nat) (u : Value) (w : World) (ha : a < w.heap.size) (hcell : ∀ j, j < n → ∀ x y, (pgL (f j))[x]? = some y → w.cell? ⟨a, o + j * 288 + x, none⟩ = some y) (hlen : ∀ j, j < n → (f j).length = 288)
    (hu : RdB w u m) (hm : m.length ≤ 1048576) (hn0 : 0 < n) (hn : n ≤ 32) : Calls Try.prog 59 #[.slice (some ⟨a, o, none⟩) n cap, u] w (MaskRes f n m w) := by
  obtain ⟨ua, uc, hue⟩ := hu.len
  obtain ⟨ml, hml⟩ : ∃ ml, m.length = ml := ⟨_, rfl⟩
  rw [hml] at hue
  subst hue
  have hcell := Lib.hid (fun W (hW : Below w.heap.size w W) j (hj : j < n) x y (h : (pgL (f j))[x]? = some y) => (hW.cell (p := ⟨a, o + j * 288 + x, none⟩) ha).trans (hcell j hj x y h))
  replace hlen := Lib.hid hlen
  replace hu := Lib.hid hu
  replace hml := Lib.hid hml
  replace hm := Lib.hid hm
  go_enter Try.func59, Try.ntmps59
  go_wp2_with fail
  go_loopw [5, 6] (fun b i wr => ∃ k : Nat, k ≤ n ∧ i = .int .i64 k ∧ wr.ownsRow w.heap.size 5 1 b (k * 288) ((allOf f k).map byteV) ∧ Below w.heap.size w wr) (fun _ i _ => n - (intOf i).toNat)
  case atStart => exact ⟨0, by omega, rfl, by rw [Nat.zero_mul]; exact World.ownsRow_nil _ _ _ _, Below.refl _ _⟩
  case round =>
    obtain ⟨k, hk, rfl, hown, hB⟩ := hrel
    rename World => wa
    by_cases hlt : k < n
    · have hl := hlen.out k hlt
      have hsn := allOf_succ f k
      have hc := hcell.out wa.drew hB.drew k hlt
      have hI0 : (0 : Int) ≤ (k : Int) := by omega
      have hI1 : (k : Int) < (n : Int) := by omega
      have hcc := fun W (hW : Below w.heap.size w W) => hcell.out W hW k hlt
      obtain ⟨l, hle⟩ : ∃ l, f k = l := ⟨_, rfl⟩
      rw [hle] at hl hsn hc hcc
      clear hle
      have t1 : (l.take 256).length = 256 := by rw [List.length_take]; omega
      have t2 : (l.drop 256).length = 32 := by rw [List.length_drop]; omega
      have hd := own_below hown ((Below.refl _ _).drew)
      have hBd := hB.drew
      obtain ⟨v1, w1, hr1, o1, hg1⟩ := append_bytes hBd.size hd a (o + k * 288) (l.take 256) (fun j y hy => by
        have hj : j < 256 := by have := (List.getElem?_eq_some_iff.1 hy).1; rw [List.length_map, t1] at this; exact this
        refine hc j y ?_
        rw [pgL_eq hl, ← hy]
        rw [List.getElem?_map, List.getElem?_map, List.getElem?_take_of_lt hj]) (by omega) (by omega) 65
      have hB1 := hBd.grown hg1 hBd.size (fun b e => (hd.lt b e).1)
      obtain ⟨v2, w2, hr2, o2, hg2⟩ := append_bytes hB1.size o1 a (o + k * 288 + 256) (l.drop 256) (fun j y hy => by
        have hj : j < 32 := by have := (List.getElem?_eq_some_iff.1 hy).1; rw [List.length_map, t2] at this; exact this
        rw [Nat.add_assoc (o + k * 288)]
        refine hcc w1 hB1 (256 + j) y ?_
        rw [pgL_eq hl, ← hy]
        rw [List.getElem?_map, List.getElem?_map, List.getElem?_drop]) (by omega) (by omega) 65
      have hB2 := hB1.grown hg2 hB1.size (fun b e => (o1.lt b e).1)
      rw [t1] at hr1 o1
      rw [t2] at hr2 o2
      have o3 : w2.ownsRow w.heap.size 5 1 v2 ((k + 1) * 288) ((allOf f (k + 1)).map byteV) := by
        have e1 : k * 288 + (l.take 256).length + 32 = (k + 1) * 288 := by omega
        have e2 : (allOf f k).map byteV ++ (l.take 256).map byteV ++ (l.drop 256).map byteV = (allOf f (k + 1)).map byteV := by rw [hsn, List.append_assoc, ← List.map_append, List.take_append_drop, ← List.map_append]
        rw [← e1, ← e2]; exact o2
      replace hr1 := Lib.hid hr1
      replace hr2 := Lib.hid hr2
      replace o3 := Lib.hid o3
      replace hB2 := Lib.hid hB2
      clear hown hB hd hBd hB1 hc hcc hg1 hg2 o1 o2 t1 t2 hsn hl
      go_upto_region 5 with fail
      refine wp_region_noPanic ?_
      refine wp_region_held_drew (S := fun _ => True) (by kernel_rfl) (trivial) (fun hHeld => ?_)
      refine wpAnyH_take (i := 0) (v := ?_) rfl (by kernel_rfl) (by kernel_rfl) (by kernel_rfl) (fun _ _ _ h => h) (Or.inl ⟨rfl, ?_⟩) (by assumption) ?_
      rotate_left
      · intro W hSw
        (try dsimp only at hSw)
        go_simp
        try with_reducible rfl
      try simp only [List.getElem_toArray, List.getElem_cons_zero, List.getElem_cons_succ, Act.put, List.setIfInBounds_toArray, List.set_cons_zero, List.set_cons_succ]
      refine wpAnyH_take (i := 1) (v := ?_) rfl (by kernel_rfl) (by kernel_rfl) (by kernel_rfl) (fun _ _ _ h => h) (Or.inl ⟨rfl, ?_⟩) (by assumption) ?_
      rotate_left
      · intro W hSw
        (try dsimp only at hSw)
        go_simp
        try with_reducible rfl
      try simp only [List.getElem_toArray, List.getElem_cons_zero, List.getElem_cons_succ, Act.put, List.setIfInBounds_toArray, List.set_cons_zero, List.set_cons_succ]
      refine wpAnyH_take (i := 2) (v := ?_) rfl (by kernel_rfl) (by kernel_rfl) (by kernel_rfl) (fun _ _ _ h => h) (Or.inl ⟨rfl, ?_⟩) (by assumption) ?_
      rotate_left
      · intro W hSw
        (try dsimp only at hSw)
        go_simp
        try with_reducible rfl
      try simp only [List.getElem_toArray, List.getElem_cons_zero, List.getElem_cons_succ, Act.put, List.setIfInBounds_toArray, List.set_cons_zero, List.set_cons_succ]
      refine wpAnyH_take (i := 3) (v := ?_) rfl (by kernel_rfl) (by kernel_rfl) (by kernel_rfl) (fun _ _ _ h => h) (Or.inl ⟨rfl, ?_⟩) (by assumption) ?_
      rotate_left
      · intro W hSw
        (try dsimp only at hSw)
        go_simp
        try with_reducible rfl
      try simp only [List.getElem_toArray, List.getElem_cons_zero, List.getElem_cons_succ, Act.put, List.setIfInBounds_toArray, List.set_cons_zero, List.set_cons_succ]
      refine wpAnyH_take (i := 4) (v := ?_) rfl (by kernel_rfl) (by kernel_rfl) (by kernel_rfl) (fun _ _ _ h => h) (Or.inl ⟨rfl, ?_⟩) (by assumption) ?_
      rotate_left
      · intro W hSw
        (try dsimp only at hSw)
        go_simp
        try with_reducible rfl
      try simp only [List.getElem_toArray, List.getElem_cons_zero, List.getElem_cons_succ, Act.put, List.setIfInBounds_toArray, List.set_cons_zero, List.set_cons_succ]
      refine wpAnyH_take (i := 5) (v := ?_) rfl (by kernel_rfl) (by kernel_rfl) (by kernel_rfl) (fun _ _ _ h => h) (Or.inl ⟨rfl, ?_⟩) (by assumption) ?_
      rotate_left
      · intro W hSw
        (try dsimp only at hSw)
        go_simp
        try with_reducible rfl
      try simp only [List.getElem_toArray, List.getElem_cons_zero, List.getElem_cons_succ, Act.put, List.setIfInBounds_toArray, List.set_cons_zero, List.set_cons_succ]
      refine wpAnyH_take (i := 7) (v := ?_) rfl (by kernel_rfl) (by kernel_rfl) (by kernel_rfl) (fun _ _ _ h => h) (Or.inl ⟨rfl, ?_⟩) (by assumption) ?_
      rotate_left
      · intro W hSw
        (try dsimp only at hSw)
        go_simp
        try with_reducible rfl
      try simp only [List.getElem_toArray, List.getElem_cons_zero, List.getElem_cons_succ, Act.put, List.setIfInBounds_toArray, List.set_cons_zero, List.set_cons_succ]
      refine wpAnyH_take (i := 8) (v := ?_) rfl (by kernel_rfl) (by kernel_rfl) (by kernel_rfl) (fun _ _ _ h => h) (Or.inl ⟨rfl, ?_⟩) (by assumption) ?_
      rotate_left
      · intro W hSw
        (try dsimp only at hSw)
        go_simp
        try with_reducible rfl
      try simp only [List.getElem_toArray, List.getElem_cons_zero, List.getElem_cons_succ, Act.put, List.setIfInBounds_toArray, List.set_cons_zero, List.set_cons_succ]
      refine wpAnyH_take (i := 9) (v := ?_) rfl (by kernel_rfl) (by kernel_rfl) (by kernel_rfl) (fun _ _ _ h => h) (Or.inl ⟨rfl, ?_⟩) (by assumption) ?_
      rotate_left
      · intro W hSw
        (try dsimp only at hSw)
        go_simp
        try with_reducible rfl
      try simp only [List.getElem_toArray, List.getElem_cons_zero, List.getElem_cons_succ, Act.put, List.setIfInBounds_toArray, List.set_cons_zero, List.set_cons_succ]
      refine wpAnyH_take (i := 10) (v := ?_) rfl (by kernel_rfl) (by kernel_rfl) (by kernel_rfl) (fun _ _ _ h => h) (Or.inl ⟨rfl, ?_⟩) (by assumption) ?_
      rotate_left
      · intro W hSw
        (try dsimp only at hSw)
        go_simp
        try with_reducible rfl
      try simp only [List.getElem_toArray, List.getElem_cons_zero, List.getElem_cons_succ, Act.put, List.setIfInBounds_toArray, List.set_cons_zero, List.set_cons_succ]
      refine wpAnyH_take (i := 11) (v := ?_) rfl (by kernel_rfl) (by kernel_rfl) (by kernel_rfl) (fun _ _ _ h => h) (Or.inl ⟨rfl, ?_⟩) (by assumption) ?_
      rotate_left
      · intro W hSw
        (try dsimp only at hSw)
        go_simp
        try with_reducible rfl
      try simp only [List.getElem_toArray, List.getElem_cons_zero, List.getElem_cons_succ, Act.put, List.setIfInBounds_toArray, List.set_cons_zero, List.set_cons_succ]
      refine wpAnyH_ready (rs := [6]) (by kernel_rfl) (by simp) (AllReadyH.cons rfl (fun K hK => ?_) AllReadyH.nil)
      refine step_append_run rfl (.tmp 17) (.tmp 22) 65 65 rfl _ _ rfl rfl _ _ hr1.out ?_
      refine hK.out _ _ (trivial) (fun hHeld => ?_)
      clear hK
      try simp only [List.getElem_toArray, List.getElem_cons_zero, List.getElem_cons_succ, Act.put, List.setIfInBounds_toArray, List.set_cons_zero, List.set_cons_succ]
      refine wpAnyH_ready (rs := [12]) (by kernel_rfl) (by simp) (AllReadyH.cons rfl (fun K hK => ?_) AllReadyH.nil)
      refine step_append_run rfl (.tmp 23) (.tmp 28) 65 65 rfl _ _ rfl rfl _ _ hr2.out ?_
      refine hK.out _ _ (trivial) (fun hHeld => ?_)
      clear hK
      try simp only [List.getElem_toArray, List.getElem_cons_zero, List.getElem_cons_succ, Act.put, List.setIfInBounds_toArray, List.set_cons_zero, List.set_cons_succ]
      refine wpAnyH_take (i := 13) (v := ?_) rfl (by kernel_rfl) (by kernel_rfl) (by kernel_rfl) (fun _ _ _ h => h) (Or.inl ⟨rfl, ?_⟩) (by assumption) ?_
      rotate_left
      · intro W hSw
        (try dsimp only at hSw)
        go_simp
        try with_reducible rfl
      try simp only [List.getElem_toArray, List.getElem_cons_zero, List.getElem_cons_succ, Act.put, List.setIfInBounds_toArray, List.set_cons_zero, List.set_cons_succ]
      refine wpAnyH_done (by kernel_rfl) ?_ _
      (try dsimp only [NoPanic])
      go_wp2_with fail
      go_roundw
      case rel => exact ⟨k + 1, by omega, by go_num, o3.out, hB2.out⟩
      case measure => simp [intOf]; omega
    · obtain rfl : k = n := by omega
      have hal := allOf_len f k (fun j hj => hlen.out j hj)
      obtain ⟨g, gc, hv, hgg, hob⟩ := OwnB.of_own (bs := allOf f k) (by rw [hal]; exact hown) (by intro e; rw [e] at hal; simp at hal; omega)
      subst hv
      have hmk := maskr_any (allOf f k) m _ _ wa hob.rd (hu.out.below hB) (by rw [hal]; omega) hm.out
      have hmlen := mask_len (allOf f k) m
      obtain ⟨mb, hmb⟩ : ∃ b, mask (allOf f k) m = b := ⟨_, rfl⟩
      have hgoal : MaskRes f k m w = fun e w' => ∃ g cap, e = .returned (.slice (some ⟨g, 0, none⟩) k cap) ∧ w'.ownsRow w.heap.size 48 288 (.slice (some ⟨g, 0, none⟩) k cap) k (((List.range k).map (piece mb)).flatMap pgL) ∧ Below w.heap.size w w' := by unfold MaskRes; rw [hmb]
      rw [hmb] at hmk hmlen
      rw [hal] at hmk hmlen ⊢
      replace hmk := Lib.hid hmk
      replace hB := Lib.hid hB
      replace hgoal := Lib.hid hgoal
      clear hown hob hal hmb
      go_wp2_with fail
      refine hmk.out.mono ?_
      rintro e w4 ⟨x, rfl, hxo, hb4⟩
      obtain ⟨g2, c2, hx, _, hob⟩ := OwnB.of_own (bs := mb) (by rw [hmlen]; exact hxo) (by intro e; rw [e] at hmlen; simp at hmlen; omega)
      rw [hmlen] at hx
      subst hx
      have hcap : k * 288 ≤ c2 := by obtain ⟨_, _, _, h, _⟩ := hob; omega
      have hbw := Lib.hid (hB.out.trans (hb4.mono hB.out.size))
      replace hob := Lib.hid hob
      clear hmk hxo hb4 hB
      go_wp2_with fail
      go_loopw [7, 8] (fun out i wr => ∃ (j : Nat) (pa : Option Addr) (pc : Nat), j ≤ k ∧ i = .int .i64 j ∧ out = .slice pa j pc ∧ wr.ownsRow w4.heap.size 48 288 (.slice pa j pc) j (((List.range j).map (piece mb)).flatMap pgL) ∧ Below w4.heap.size w4 wr) (fun _ i _ => k - (intOf i).toNat)
      case atStart => exact ⟨0, none, 0, by omega, rfl, rfl, World.ownsRow_nil _ _ _ _, Below.refl _ _⟩
      case round =>
        obtain ⟨j, pa, pc, hj, rfl, rfl, ho, hbr⟩ := hrel
        rename World => wb
        by_cases hlt : j < k
        · have hxl := piece_len mb j k (by rw [hmlen]) hlt
          have hj288 : (j + 1) * 288 ≤ k * 288 := Nat.mul_le_mul_right _ (by omega)
          have hpg := fun x (h : x < 288) => piece_get mb j x (by rw [hxl]; exact h) (by rw [hmlen]; omega)
          have hoc := fun W (hW : Below w4.heap.size w4 W) x (h : x < mb.length) => (hob.out.below hW).cell x h
          have hfl : ∀ q, piece mb j = q → ((List.range (j + 1)).map (piece mb)).flatMap pgL = ((List.range (j + 1)).map (piece mb)).flatMap pgL := fun _ _ => rfl
          have t1 : ((piece mb j).take 256).length = 256 := by rw [List.length_take]; omega
          have t2 : ((piece mb j).drop 256).length = 32 := by rw [List.length_drop]; omega
          have bz := Box.new wb 48 (cellsB (rep 288 0))
          have hal := (Below.refl wb.heap.size wb).alloc (Nat.le_refl _) (.cells (cellsB (rep 288 0)) 48)
          have hB0 := hbr.trans (hal.mono hbr.size)
          have hge := hbr.size
          obtain ⟨A0, hA0⟩ : ∃ A, wb.alloc (.cells (cellsB (rep 288 0)) 48) = A := ⟨_, rfl⟩
          have hPs : wb.heap.size < A0.heap.size := by rw [← hA0, World.size_alloc]; omega
          rw [hA0] at bz hal hB0
          obtain ⟨hc1, b1, hg1⟩ := (Box.drew bz).copy 0 ((piece mb j).take 256) (by rw [t1, rep_len]; omega) ⟨g2, j * 288, none⟩ 256 256 (k * 288 - j * 288) (c2 - j * 288) (by rw [t1]; show 256 = min _ _; omega) (fun x hx => by
            rw [t1] at hx
            rw [show (⟨g2, j * 288, none⟩ : Addr).add x = ⟨g2, j * 288 + x, none⟩ from by unfold Addr.add; split <;> simp_all]
            rw [hoc _ (Below.drew hB0) (j * 288 + x) (by rw [hmlen]; omega), List.getElem_take, hpg x (by omega)]) 3
          have hB1 := (Below.drew hB0).grown hg1 (Nat.le_trans hB0.size (Nat.le_refl _)) (fun b e => by cases e; omega)
          have ho0 := own_below ho hal
          have ho1 := (own_below ho0 ((Below.refl _ _).drew)).kept hg1 (by
            rcases pa with _ | ad
            · left; rfl
            · right; intro e; have := (ho.lt ad.block rfl).2; simp [Value.ownBlock] at e; omega)
          rw [t1] at hc1
          obtain ⟨A1, hA1⟩ : ∃ A, A0.drew.setRow wb.heap.size (cellsB (splice (rep 288 0) 0 ((piece mb j).take 256))) = A := ⟨_, rfl⟩
          rw [hA1] at hc1 b1 hB1 ho1
          have hs3 : (splice (rep 288 0) 0 ((piece mb j).take 256)).length = 288 := by rw [splice_len _ _ _ (by rw [t1, rep_len]; omega), rep_len]
          obtain ⟨hc2, b2, hg2⟩ := (Box.drew b1).copy 256 ((piece mb j).drop 256) (by rw [t2, hs3]; omega) ⟨g2, j * 288 + 256, none⟩ 32 32 (k * 288 - (j * 288 + 256)) (c2 - (j * 288 + 256)) (by rw [t2]; show 32 = min _ _; omega) (fun x hx => by
            rw [t2] at hx
            rw [show (⟨g2, j * 288 + 256, none⟩ : Addr).add x = ⟨g2, j * 288 + (256 + x), none⟩ from by unfold Addr.add; split <;> simp_all <;> omega]
            rw [hoc _ (Below.drew hB1) (j * 288 + (256 + x)) (by rw [hmlen]; omega), List.getElem_drop, hpg (256 + x) (by omega)]) 3
          rw [splice_two _ _ (rep_len _ _) hxl, t2] at hc2
          rw [splice_two _ _ (rep_len _ _) hxl] at b2 hg2
          have hP1 := b1.lt
          have hB2 := (Below.drew hB1).grown hg2 (Nat.le_trans hB1.size (Nat.le_refl _)) (fun b e => by cases e; omega)
          have ho2 := (own_below ho1 ((Below.refl _ _).drew)).kept hg2 (by
            rcases pa with _ | ad
            · left; rfl
            · right; intro e; have := (ho.lt ad.block rfl).2; simp [Value.ownBlock] at e; omega)
          obtain ⟨A2, hA2⟩ : ∃ A, A1.drew.setRow wb.heap.size (cellsB (piece mb j)) = A := ⟨_, rfl⟩
          rw [hA2] at hc2 b2 hB2 ho2
          obtain ⟨va, vn, vc, w6, hrun, ho6, hvn, hB6⟩ := pg_push ho2 hB2 (by omega) hxl
          subst hvn
          have hld := b2.loadPg hxl
          have hs1 := Lib.hid (fun W => show (Instr.slice 65 (.slice (some ⟨g2, 0, none⟩) (k * 288) c2) (some (.int .i64 ((j : Int) * 288))) none none).run Try.prog W = .ok (.slice (some ⟨g2, j * 288, none⟩) (k * 288 - j * 288) (c2 - j * 288)) W from by have h := slice65 g2 (k * 288) c2 (j * 288) (by omega) hcap W; rw [show ((j * 288 : Nat) : Int) = (j : Int) * 288 by omega] at h; exact h)
          have hs2 := Lib.hid (fun W => show (Instr.slice 65 (.slice (some ⟨g2, 0, none⟩) (k * 288) c2) (some (.int .i64 ((j : Int) * 288 + 256))) none none).run Try.prog W = .ok (.slice (some ⟨g2, j * 288 + 256, none⟩) (k * 288 - (j * 288 + 256)) (c2 - (j * 288 + 256))) W from by have h := slice65 g2 (k * 288) c2 (j * 288 + 256) (by omega) hcap W; rw [show ((j * 288 + 256 : Nat) : Int) = (j : Int) * 288 + 256 by omega] at h; exact h)
          have hI0 : (0 : Int) ≤ (j : Int) := by omega
          have hI1 : (j : Int) < (k : Int) := by omega
          obtain ⟨p, hp⟩ : ∃ p, piece mb j = p := ⟨_, rfl⟩
          rw [hp] at hld hrun hxl
          unfold pgV at hld
          have hz := zero48
          replace hc1 := Lib.hid hc1
          replace hc2 := Lib.hid hc2
          replace hrun := Lib.hid hrun
          replace ho6 := Lib.hid ho6
          replace hB6 := Lib.hid hB6
          clear ho hbr hoc hpg hfl t1 t2 bz hal hB0 hge hg1 hg2 b1 b2 hB1 hB2 ho0 ho1 ho2 hA1 hA2 hs3 hP1 hPs hp
          go_upto_region 13 with fail
          clear hz hA0
          refine wp_region_noPanic ?_
          refine wp_region_held_drew (S := fun _ => True) (by kernel_rfl) (trivial) (fun hHeld => ?_)
          refine wpAnyH_take (i := 0) (v := ?_) rfl (by kernel_rfl) (by kernel_rfl) (by kernel_rfl) (fun _ _ _ h => h) (Or.inl ⟨rfl, ?_⟩) (by assumption) ?_
          rotate_left
          · intro W hSw
            (try dsimp only at hSw)
            go_simp
            try with_reducible rfl
          try simp only [List.getElem_toArray, List.getElem_cons_zero, List.getElem_cons_succ, Act.put, List.setIfInBounds_toArray, List.set_cons_zero, List.set_cons_succ]
          refine wpAnyH_take (i := 1) (v := ?_) rfl (by kernel_rfl) (by kernel_rfl) (by kernel_rfl) (fun _ _ _ h => h) (Or.inl ⟨rfl, ?_⟩) (by assumption) ?_
          rotate_left
          · intro W hSw
            (try dsimp only at hSw)
            go_simp
            try with_reducible rfl
          try simp only [List.getElem_toArray, List.getElem_cons_zero, List.getElem_cons_succ, Act.put, List.setIfInBounds_toArray, List.set_cons_zero, List.set_cons_succ]
          refine wpAnyH_take (i := 2) (v := ?_) rfl (by kernel_rfl) (by kernel_rfl) (by kernel_rfl) (fun _ _ _ h => h) (Or.inl ⟨rfl, ?_⟩) (by assumption) ?_
          rotate_left
          · intro W hSw
            (try dsimp only at hSw)
            go_simp
            try with_reducible rfl
          try simp only [List.getElem_toArray, List.getElem_cons_zero, List.getElem_cons_succ, Act.put, List.setIfInBounds_toArray, List.set_cons_zero, List.set_cons_succ]
          refine wpAnyH_take (i := 3) (v := ?_) rfl (by kernel_rfl) (by kernel_rfl) (by kernel_rfl) (fun _ _ _ h => h) (Or.inl ⟨rfl, ?_⟩) (by assumption) ?_
          rotate_left
          · intro W hSw
            (try dsimp only at hSw)
            go_simp
            try with_reducible rfl
          try simp only [List.getElem_toArray, List.getElem_cons_zero, List.getElem_cons_succ, Act.put, List.setIfInBounds_toArray, List.set_cons_zero, List.set_cons_succ]
          refine wpAnyH_take (i := 4) (v := .slice (some ⟨g2, j * 288, none⟩) (k * 288 - j * 288) (c2 - j * 288)) rfl (by kernel_rfl) (by kernel_rfl) (by kernel_rfl) (fun _ _ _ h => h) (Or.inl ⟨rfl, ?_⟩) (by assumption) ?_
          · intro W hSw
            exact exec_slice (.tmp 43) (.tmp 44) rfl _ _ _ _ rfl rfl _ (hs1.out W)
          try simp only [List.getElem_toArray, List.getElem_cons_zero, List.getElem_cons_succ, Act.put, List.setIfInBounds_toArray, List.set_cons_zero, List.set_cons_succ]
          refine wpAnyH_ready (rs := [5]) (by kernel_rfl) (by simp) (AllReadyH.cons rfl (fun K hK => ?_) AllReadyH.nil)
          refine step_copy_run rfl (.tmp 42) (.tmp 45) 65 65 rfl _ _ rfl rfl _ _ hc1.out ?_
          refine hK.out _ _ (trivial) (fun hHeld => ?_)
          clear hK
          try simp only [List.getElem_toArray, List.getElem_cons_zero, List.getElem_cons_succ, Act.put, List.setIfInBounds_toArray, List.set_cons_zero, List.set_cons_succ]
          refine wpAnyH_done (by kernel_rfl) ?_ _
          (try dsimp only [NoPanic])
          go_upto_region 14 with fail
          refine wp_region_noPanic ?_
          refine wp_region_held_drew (S := fun _ => True) (by kernel_rfl) (trivial) (fun hHeld => ?_)
          refine wpAnyH_take (i := 0) (v := ?_) rfl (by kernel_rfl) (by kernel_rfl) (by kernel_rfl) (fun _ _ _ h => h) (Or.inl ⟨rfl, ?_⟩) (by assumption) ?_
          rotate_left
          · intro W hSw
            (try dsimp only at hSw)
            go_simp
            try with_reducible rfl
          try simp only [List.getElem_toArray, List.getElem_cons_zero, List.getElem_cons_succ, Act.put, List.setIfInBounds_toArray, List.set_cons_zero, List.set_cons_succ]
          refine wpAnyH_take (i := 1) (v := ?_) rfl (by kernel_rfl) (by kernel_rfl) (by kernel_rfl) (fun _ _ _ h => h) (Or.inl ⟨rfl, ?_⟩) (by assumption) ?_
          rotate_left
          · intro W hSw
            (try dsimp only at hSw)
            go_simp
            try with_reducible rfl
          try simp only [List.getElem_toArray, List.getElem_cons_zero, List.getElem_cons_succ, Act.put, List.setIfInBounds_toArray, List.set_cons_zero, List.set_cons_succ]
          refine wpAnyH_take (i := 2) (v := ?_) rfl (by kernel_rfl) (by kernel_rfl) (by kernel_rfl) (fun _ _ _ h => h) (Or.inl ⟨rfl, ?_⟩) (by assumption) ?_
          rotate_left
          · intro W hSw
            (try dsimp only at hSw)
            go_simp
            try with_reducible rfl
          try simp only [List.getElem_toArray, List.getElem_cons_zero, List.getElem_cons_succ, Act.put, List.setIfInBounds_toArray, List.set_cons_zero, List.set_cons_succ]
          refine wpAnyH_take (i := 3) (v := ?_) rfl (by kernel_rfl) (by kernel_rfl) (by kernel_rfl) (fun _ _ _ h => h) (Or.inl ⟨rfl, ?_⟩) (by assumption) ?_
          rotate_left
          · intro W hSw
            (try dsimp only at hSw)
            go_simp
            try with_reducible rfl
          try simp only [List.getElem_toArray, List.getElem_cons_zero, List.getElem_cons_succ, Act.put, List.setIfInBounds_toArray, List.set_cons_zero, List.set_cons_succ]
          refine wpAnyH_take (i := 4) (v := .int .i64 ((j : Int) * 288 + 256)) rfl (by kernel_rfl) (by kernel_rfl) (by kernel_rfl) (fun _ _ _ h => h) (Or.inl ⟨rfl, ?_⟩) (by assumption) ?_
          · intro W hSw
            exact exec_addi (.tmp 50) (.const (.int .i64 256)) 3 rfl _ _ rfl rfl ⟨by omega, by omega⟩
          try simp only [List.getElem_toArray, List.getElem_cons_zero, List.getElem_cons_succ, Act.put, List.setIfInBounds_toArray, List.set_cons_zero, List.set_cons_succ]
          refine wpAnyH_take (i := 5) (v := .slice (some ⟨g2, j * 288 + 256, none⟩) (k * 288 - (j * 288 + 256)) (c2 - (j * 288 + 256))) rfl (by kernel_rfl) (by kernel_rfl) (by kernel_rfl) (fun _ _ _ h => h) (Or.inl ⟨rfl, ?_⟩) (by assumption) ?_
          · intro W hSw
            exact exec_slice (.tmp 49) (.tmp 51) rfl _ _ _ _ rfl rfl _ (hs2.out W)
          try simp only [List.getElem_toArray, List.getElem_cons_zero, List.getElem_cons_succ, Act.put, List.setIfInBounds_toArray, List.set_cons_zero, List.set_cons_succ]
          refine wpAnyH_ready (rs := [6]) (by kernel_rfl) (by simp) (AllReadyH.cons rfl (fun K hK => ?_) AllReadyH.nil)
          refine step_copy_run rfl (.tmp 48) (.tmp 52) 65 65 rfl _ _ rfl rfl _ _ hc2.out ?_
          refine hK.out _ _ (trivial) (fun hHeld => ?_)
          clear hK
          try simp only [List.getElem_toArray, List.getElem_cons_zero, List.getElem_cons_succ, Act.put, List.setIfInBounds_toArray, List.set_cons_zero, List.set_cons_succ]
          refine wpAnyH_done (by kernel_rfl) ?_ _
          (try dsimp only [NoPanic])
          go_wp2_with (first | (refine wpList_load_var rfl 48 _ rfl _ rfl _ hld ?_) | (refine wpList_build_pg rfl _ rfl p rfl hxl ?_) | (at_builtin; refine wpList_append_run rfl _ _ 56 rfl _ _ rfl rfl _ _ hrun.out ?_))
          go_roundw
          case rel => exact ⟨j + 1, _, _, by omega, by go_num, rfl, ho6.out, hB6.out⟩
          case measure => simp [intOf]; omega
        · obtain rfl : j = k := by omega
          obtain ⟨gf, hgf⟩ : ∃ gf, pa = some ⟨gf, 0, none⟩ := by
            obtain ⟨_, ⟨_, h0⟩ | ⟨g, cp, cur, h1, _⟩⟩ := id ho
            · omega
            · cases h1; exact ⟨g, rfl⟩
          subst hgf
          have hfin := Lib.hid (show ∃ g cap, Ending.returned (.slice (some ⟨gf, 0, none⟩) j pc) = .returned (.slice (some ⟨g, 0, none⟩) j cap) ∧ wb.ownsRow w.heap.size 48 288 (.slice (some ⟨g, 0, none⟩) j cap) j (((List.range j).map (piece mb)).flatMap pgL) ∧ Below w.heap.size w wb from ⟨gf, pc, rfl, own_mono ho hbw.out.size, hbw.out.trans (hbr.mono hbw.out.size)⟩)
          clear ho hbr
          go_wp2_with fail
          go_ret
          rw [hgoal.out]
          exact hfin.out
end Go.Proofs.Ytlgjlhgdpiipbaa
