import Derived.Test.YtlgjlhgdpiipbaaMaj
/- copies: the walk. -/
namespace Go.Proofs.Ytlgjlhgdpiipbaa
open Go.RowKit Go.Shelf
attribute [local go_sem] Oper.semAt_some
section
variable {F : Fence} {n : Nat} {P : Program} {ops : Array Oper} {Q : Exit → Act → World → Prop}
/-- A region that draws its order, by its states. -/
theorem wpIn_region_states {id : Nat} {a : Act} {w : World} (hm : P.follows .mixedOrders = true)
    (h : ∀ R : Nat → Array Bool → Act → World → Prop, (∀ f l a w, R f l a w ↔ wpAnyIn F n P .any ops Q f l a w) → R ops.size (Array.replicate ops.size false) a w.drew) : (Code.region id ops true).wpIn F n P Q a w :=
  wpIn_region_any hm (h (wpAnyIn F n P .any ops Q) (fun _ _ _ _ => Iff.rfl))
theorem stepIn_append_run {o : Oper} {a : Act} {w w' : World} {K : Act → World → Prop} (d s : Operand) (t : TypeId) (ho : o.op = .call { callee := .builtin .append, args := #[d, s], argTypes := #[t, t] }) (v u : Value) (hd : a.eval d = v) (hs : a.eval s = u) (r : Value)
    (hrun : (Builtin.append_ #[t, t] o.type #[v, u]).run P w = .ok r w') (h : K (a.put o.dst r) w') : Oper.wpIn F n P o a w K Q := by
  unfold Oper.wpIn
  refine ⟨by simp [Oper.about, ho, resolve, Target.leads, Sem.run_pure], ?_⟩
  rw [Oper.semAt_plain F _ _ (by rw [ho]; intro c hc'; cases hc')]
  simp [execOp, ho, resolve, invoke, builtin, hd, hs, hrun, Result.andThen]
  exact h
end
set_option maxRecDepth 100000 in
set_option maxHeartbeats 4000000 in
theorem copies_any {pn : Nat} (kb p lc : Nat) (parr : Array Value) (q : Nat → Nat) (pgs : Nat → List UInt8) (lk : Look) (w : World) (h32 : pn ≤ 32) (hk : Box w kb 84 #[.slice (some ⟨p, 0, none⟩) pn lc, .int .i64 lk.wear, .int .i64 lk.next, .bool lk.bad]) (hrow : Box w p 85 parr) (hat : ∀ j, j < pn → parr[j]? = some (ptr (q j)))
    (hbyt : ∀ j, j < pn → Box w (q j) 110 (cellsB (pgs j))) (hlen : ∀ j, j < pn → (pgs j).length = 288) (hcap : pn ≤ lc) :
    Calls Try.prog 43 #[.pointer (some ⟨kb, 0, none⟩)] w (fun e w' => ∃ nb pa pc qf, e = .returned (.pointer (some ⟨nb, 0, none⟩)) ∧ CBlk w.heap.size w' nb pn (.slice pa pn pc) qf ⟨pgs, lk⟩ ∧ Below w.heap.size w w') := by
  refine (callsIn_wide (n := 3)).1 ?_
  obtain ⟨lw, ln, lb⟩ := lk
  dsimp only at hk
  have k0 := hk.get 0 _ rfl
  have k1 := hk.get 1 _ rfl
  have k2 := hk.get 2 _ rfl
  have k3 := hk.get 3 _ rfl
  have k0' : ((w.alloc (.cells #[.slice none 0 0, .int .i64 lw, .int .i64 ln, .bool lb] 84)).alloc (.cells #[.pointer (some ⟨w.heap.size, 0, none⟩)] 81)).cell? ⟨kb, 0, none⟩ = some (.slice (some ⟨p, 0, none⟩) pn lc) := ((hk.alloc _).alloc _).get 0 _ rfl
  have b0 := (Box.new w 84 #[.slice none 0 0, .int .i64 lw, .int .i64 ln, .bool lb]).alloc (.cells #[.pointer (some ⟨w.heap.size, 0, none⟩)] 81)
  have b1 := Box.new (w.alloc (.cells #[.slice none 0 0, .int .i64 lw, .int .i64 ln, .bool lb] 84)) 81 #[.pointer (some ⟨w.heap.size, 0, none⟩)]
  rw [World.size_alloc] at b1
  have hBl : Below w.heap.size w ((w.alloc (.cells #[.slice none 0 0, .int .i64 lw, .int .i64 ln, .bool lb] 84)).alloc (.cells #[.pointer (some ⟨w.heap.size, 0, none⟩)] 81)) := ((Below.refl _ w).alloc (Nat.le_refl _) _).alloc (by rw [World.size_alloc]; omega) _
  obtain ⟨W0, hW0⟩ : ∃ W0, (w.alloc (.cells #[.slice none 0 0, .int .i64 lw, .int .i64 ln, .bool lb] 84)).alloc (.cells #[.pointer (some ⟨w.heap.size, 0, none⟩)] 81) = W0 := ⟨_, rfl⟩
  rw [hW0] at b0 b1 hBl k0'
  refine callsIn_of_wp_marks Try.func43 rfl trivial ?_ rfl
  simp only [Try.ntmps43, List.size_toArray, List.length_cons, List.length_nil, Nat.reduceAdd, Nat.reduceSub, Array.replicate_succ, Array.replicate_zero, List.push_toArray, List.append_toArray, List.nil_append, List.cons_append]
  gi_wp2_with (refine ⟨trivial, ?_⟩; gi_at_call 56; refine (callsIn_wide.2 (values_any _ _ _ _)).mono ?_; rintro e w' ⟨rfl, rfl⟩)
  have hsz := hBl.size
  have hsz2 : w.heap.size + 2 ≤ W0.heap.size := b1.lt
  have hal := (Below.refl W0.heap.size W0).alloc (Nat.le_refl _) (.cells #[.slice (some ⟨p, 0, none⟩) pn lc] 82)
  have bv := Box.new W0 82 #[.slice (some ⟨p, 0, none⟩) pn lc]
  have c0 := b0.below hal
  have c1 := b1.below hal
  have hB1 := hBl.trans (hal.mono hsz)
  obtain ⟨W1, hW1⟩ : ∃ W1, W0.alloc (.cells #[.slice (some ⟨p, 0, none⟩) pn lc] 82) = W1 := ⟨_, rfl⟩
  rw [hW1] at hal bv c0 c1 hB1 ⊢
  have hs1 : W0.heap.size < W1.heap.size := bv.lt
  have hrd : RdC (ptrL fun x : {j : Nat // j < pn} => q x.1) 1 W1 (.slice (some ⟨p, 0, none⟩) pn lc) (idx pn) := by
    have hr := hrow.below hB1
    refine ⟨some ⟨p, 0, none⟩, lc, by rw [idx_len], by rw [idx_len]; exact hcap, fun j x hx => ⟨p, 0, rfl, hr.lt, fun i u hu => ?_⟩⟩
    have hj := idx_at hx
    match i, hu with
    | 0, hu =>
      simp [ptrL] at hu
      subst hu
      have := hr.get x.1 _ (hat x.1 x.2)
      rw [← hj]
      simpa using this
  have hq : ∀ (x : {j : Nat // j < pn}) (W : World), Below w.heap.size w W → (loadVar 110 ⟨q x.1, 0, none⟩).run Try.prog W = .ok (.agg (cellsB (pgs x.1))) W := fun x W hb => Box.load110 ((hbyt x.1 x.2).below hb) (hlen x.1 x.2)
  have hl : ∀ x : {j : Nat // j < pn}, (pgs x.1).length = 288 := fun x => hlen x.1 x.2
  have hz := zero110
  have hpl := hrow.lt
  clear k0 k1 k2 k3 k0' hk hat hbyt hlen hBl b0 b1 hW0 hW1 hrow
  replace hq := Lib.hid hq
  replace hl := Lib.hid hl
  refine wpIn_rangeFunc_ownG rfl (by decide) (gf := 62) (lb := #[.pointer (some ⟨W0.heap.size, 0, none⟩)]) rfl trivial (enters_of Try.func62 (by kernel_rfl) rfl)
    (idx_stops q (3 - 1) (by decide) W0.heap.size w.heap.size (some ⟨p, 0, none⟩) lc h32 W1 hs1 (bv.get 0 _ rfl) hrd (fun b o e => by cases e; exact hpl)) (fun h k => KeepsLow.trans h k) (fun W l o o' _ h1 h2 _ => KeepsLow.put h1 h2) (Below.refl _ _) (fun _ => rfl)
    (CpI w pgs ⟨lw, ln, lb⟩) (fun _ _ _ => False) (cpI_own w pgs _ _ (by omega)) (fun _ _ _ _ _ hs _ _ => hs)
    ⟨c1, ⟨none, 0, fun _ => 0, ⟨c0, World.ownsRow_nil _ _ _ _, fun x hx => absurd hx (Nat.not_lt_zero _), fun x hx => absurd hx (Nat.not_lt_zero _), ⟨Nat.le_refl _, fun x hx => absurd hx (Nat.not_lt_zero _)⟩⟩⟩, hB1⟩
    (fun x => { tmps := #[.pointer (some ⟨kb, 0, none⟩), undef, .pointer none, .pointer (some ⟨w.heap.size + 1, 0, none⟩), .pointer (some ⟨q x.1, 0, none⟩), undef, .pointer (some ⟨kb, 0, none⟩), .pointer (some ⟨kb, 0, none⟩), .pointer (some ⟨kb, 1, none⟩), .agg #[.int .i64 lw, .int .i64 ln, .bool lb], .agg #[.slice none 0 0, .int .i64 lw, .int .i64 ln, .bool lb], .pointer (some ⟨w.heap.size, 0, none⟩), .pointer (some ⟨kb, 0, none⟩), .pointer (some ⟨kb, 0, none⟩), .pointer (some ⟨kb, 0, none⟩), .slice (some ⟨p, 0, none⟩) pn lc, .func (.func 62) #[] #[.pointer (some ⟨W0.heap.size, 0, none⟩)], .pointer (some ⟨q x.1, 0, none⟩), undef, undef, undef, undef, undef, undef, undef, undef, undef, undef, undef, undef, undef], defers := [] }) ?assign ?body ?done ?stop
  case assign =>
    intro l x W K hK
    unfold ptr
    gi_wp2
    exact hK
  case body =>
    rintro l pre x W ⟨h1, ⟨pa, pc, qf, hC⟩, hB⟩ hlt
    have hld := hq.out x W hB
    obtain ⟨hst, w1, w2, hw2, hwd, x1, x2, x3, x4, va, vn, vc, w4, hrun, x5, x6, x7, w5, hw5, hkl, hcp, hkf⟩ := cp_round h1 hC hB (by omega) (hl.out x)
    have hsz5 := hB.size
    replace hkf := Lib.hid hkf
    replace hkl := Lib.hid hkl
    replace hcp := Lib.hid hcp
    replace hrun := Lib.hid hrun
    replace hB := Lib.hid hB
    clear h1 hC
    obtain ⟨pg, hpg⟩ : ∃ pg, pgs x.1 = pg := ⟨_, rfl⟩
    rw [hpg] at hld hst hw2
    rw [hw2] at hst
    clear hw2 hpg
    replace hwd := Lib.hid hwd
    gi_wp2_with (first | (refine wpListIn_load_var rfl 110 _ rfl _ rfl _ hld ?_) | (refine wpListIn_store_var rfl 110 _ _ rfl _ rfl _ rfl hst ?_))
    clear hld hst
    replace hwd := hwd.out
    refine wpIn_region_states (by kernel_rfl) (fun R hR => ?_)
    rw [hwd]
    have st0123456789 : R 0 #[true, true, true, true, true, true, true, true, true, true] { tmps := #[.pointer (some ⟨kb, 0, none⟩), undef, .pointer none, .pointer (some ⟨w.heap.size + 1, 0, none⟩), .pointer (some ⟨q x.1, 0, none⟩), .pointer (some ⟨W.heap.size, 0, none⟩), .pointer (some ⟨kb, 0, none⟩), .pointer (some ⟨kb, 0, none⟩), .pointer (some ⟨kb, 1, none⟩), .agg #[.int .i64 lw, .int .i64 ln, .bool lb], .agg #[.slice none 0 0, .int .i64 lw, .int .i64 ln, .bool lb], .pointer (some ⟨w.heap.size, 0, none⟩), .pointer (some ⟨kb, 0, none⟩), .pointer (some ⟨kb, 0, none⟩), .pointer (some ⟨kb, 0, none⟩), .slice (some ⟨p, 0, none⟩) pn lc, .func (.func 62) #[] #[.pointer (some ⟨W0.heap.size, 0, none⟩)], .pointer (some ⟨q x.1, 0, none⟩), .pointer (some ⟨q x.1, 0, none⟩), .pointer (some ⟨q x.1, 0, none⟩), .agg (cellsB pg), .pointer (some ⟨w.heap.size, 0, none⟩), .pointer (some ⟨w.heap.size, 0, none⟩), .pointer (some ⟨w.heap.size, 0, none⟩), .pointer (some ⟨w.heap.size, 0, none⟩), .slice pa pre.length pc, .slice (some ⟨w2.heap.size, 0, none⟩) 1 1, .slice va vn vc, .pointer (some ⟨w.heap.size, 0, none⟩), .pointer (some ⟨w.heap.size, 0, none⟩), undef], defers := [] } (w5) := by
      rw [hR]
      refine wpAnyIn_done (by kernel_rfl) ?_ _
      gi_wp2
      exact ⟨hkf.out _ (by omega), hkl.out, hcp.out⟩
    have st012345678 : R 1 #[true, true, true, true, true, true, true, true, true, false] { tmps := #[.pointer (some ⟨kb, 0, none⟩), undef, .pointer none, .pointer (some ⟨w.heap.size + 1, 0, none⟩), .pointer (some ⟨q x.1, 0, none⟩), .pointer (some ⟨W.heap.size, 0, none⟩), .pointer (some ⟨kb, 0, none⟩), .pointer (some ⟨kb, 0, none⟩), .pointer (some ⟨kb, 1, none⟩), .agg #[.int .i64 lw, .int .i64 ln, .bool lb], .agg #[.slice none 0 0, .int .i64 lw, .int .i64 ln, .bool lb], .pointer (some ⟨w.heap.size, 0, none⟩), .pointer (some ⟨kb, 0, none⟩), .pointer (some ⟨kb, 0, none⟩), .pointer (some ⟨kb, 0, none⟩), .slice (some ⟨p, 0, none⟩) pn lc, .func (.func 62) #[] #[.pointer (some ⟨W0.heap.size, 0, none⟩)], .pointer (some ⟨q x.1, 0, none⟩), .pointer (some ⟨q x.1, 0, none⟩), .pointer (some ⟨q x.1, 0, none⟩), .agg (cellsB pg), .pointer (some ⟨w.heap.size, 0, none⟩), .pointer (some ⟨w.heap.size, 0, none⟩), .pointer (some ⟨w.heap.size, 0, none⟩), .pointer (some ⟨w.heap.size, 0, none⟩), .slice pa pre.length pc, .slice (some ⟨w2.heap.size, 0, none⟩) 1 1, .slice va vn vc, .pointer (some ⟨w.heap.size, 0, none⟩), .pointer (some ⟨w.heap.size, 0, none⟩), undef], defers := [] } (w4) := by
      rw [hR]
      refine wpAnyIn_ready (rs := [9]) (by kernel_rfl) (by simp) (BigFrame.allReadyIn_want rfl rfl (fun K hK => ?_) AllReadyIn.nil)
      · simp only [List.getElem_toArray, List.getElem_cons_zero, List.getElem_cons_succ]
        first | gi_big_move | gi_big_op
        try rw [hw5]
        exact hK _ _ ((hR _ _ _ _).1 st0123456789)
    have st01234567 : R 2 #[true, true, true, true, true, true, true, true, false, false] { tmps := #[.pointer (some ⟨kb, 0, none⟩), undef, .pointer none, .pointer (some ⟨w.heap.size + 1, 0, none⟩), .pointer (some ⟨q x.1, 0, none⟩), .pointer (some ⟨W.heap.size, 0, none⟩), .pointer (some ⟨kb, 0, none⟩), .pointer (some ⟨kb, 0, none⟩), .pointer (some ⟨kb, 1, none⟩), .agg #[.int .i64 lw, .int .i64 ln, .bool lb], .agg #[.slice none 0 0, .int .i64 lw, .int .i64 ln, .bool lb], .pointer (some ⟨w.heap.size, 0, none⟩), .pointer (some ⟨kb, 0, none⟩), .pointer (some ⟨kb, 0, none⟩), .pointer (some ⟨kb, 0, none⟩), .slice (some ⟨p, 0, none⟩) pn lc, .func (.func 62) #[] #[.pointer (some ⟨W0.heap.size, 0, none⟩)], .pointer (some ⟨q x.1, 0, none⟩), .pointer (some ⟨q x.1, 0, none⟩), .pointer (some ⟨q x.1, 0, none⟩), .agg (cellsB pg), .pointer (some ⟨w.heap.size, 0, none⟩), .pointer (some ⟨w.heap.size, 0, none⟩), .pointer (some ⟨w.heap.size, 0, none⟩), .pointer (some ⟨w.heap.size, 0, none⟩), .slice pa pre.length pc, .slice (some ⟨w2.heap.size, 0, none⟩) 1 1, .slice va vn vc, .pointer (some ⟨w.heap.size, 0, none⟩), undef, undef], defers := [] } (w4) := by
      rw [hR]
      refine wpAnyIn_ready (rs := [8]) (by kernel_rfl) (by simp) (BigFrame.allReadyIn_want rfl rfl (fun K hK => ?_) AllReadyIn.nil)
      · simp only [List.getElem_toArray, List.getElem_cons_zero, List.getElem_cons_succ]
        first | gi_big_move | gi_big_op
        exact hK _ _ ((hR _ _ _ _).1 st012345678)
    have st0123456 : R 3 #[true, true, true, true, true, true, true, false, false, false] { tmps := #[.pointer (some ⟨kb, 0, none⟩), undef, .pointer none, .pointer (some ⟨w.heap.size + 1, 0, none⟩), .pointer (some ⟨q x.1, 0, none⟩), .pointer (some ⟨W.heap.size, 0, none⟩), .pointer (some ⟨kb, 0, none⟩), .pointer (some ⟨kb, 0, none⟩), .pointer (some ⟨kb, 1, none⟩), .agg #[.int .i64 lw, .int .i64 ln, .bool lb], .agg #[.slice none 0 0, .int .i64 lw, .int .i64 ln, .bool lb], .pointer (some ⟨w.heap.size, 0, none⟩), .pointer (some ⟨kb, 0, none⟩), .pointer (some ⟨kb, 0, none⟩), .pointer (some ⟨kb, 0, none⟩), .slice (some ⟨p, 0, none⟩) pn lc, .func (.func 62) #[] #[.pointer (some ⟨W0.heap.size, 0, none⟩)], .pointer (some ⟨q x.1, 0, none⟩), .pointer (some ⟨q x.1, 0, none⟩), .pointer (some ⟨q x.1, 0, none⟩), .agg (cellsB pg), .pointer (some ⟨w.heap.size, 0, none⟩), .pointer (some ⟨w.heap.size, 0, none⟩), .pointer (some ⟨w.heap.size, 0, none⟩), .pointer (some ⟨w.heap.size, 0, none⟩), .slice pa pre.length pc, .slice (some ⟨w2.heap.size, 0, none⟩) 1 1, .slice va vn vc, undef, undef, undef], defers := [] } (w4) := by
      rw [hR]
      refine wpAnyIn_ready (rs := [7]) (by kernel_rfl) (by simp) (BigFrame.allReadyIn_want rfl rfl (fun K hK => ?_) AllReadyIn.nil)
      · simp only [List.getElem_toArray, List.getElem_cons_zero, List.getElem_cons_succ]
        first | gi_big_move | gi_big_op
        exact hK _ _ ((hR _ _ _ _).1 st01234567)
    have st012345 : R 4 #[true, true, true, true, true, true, false, false, false, false] { tmps := #[.pointer (some ⟨kb, 0, none⟩), undef, .pointer none, .pointer (some ⟨w.heap.size + 1, 0, none⟩), .pointer (some ⟨q x.1, 0, none⟩), .pointer (some ⟨W.heap.size, 0, none⟩), .pointer (some ⟨kb, 0, none⟩), .pointer (some ⟨kb, 0, none⟩), .pointer (some ⟨kb, 1, none⟩), .agg #[.int .i64 lw, .int .i64 ln, .bool lb], .agg #[.slice none 0 0, .int .i64 lw, .int .i64 ln, .bool lb], .pointer (some ⟨w.heap.size, 0, none⟩), .pointer (some ⟨kb, 0, none⟩), .pointer (some ⟨kb, 0, none⟩), .pointer (some ⟨kb, 0, none⟩), .slice (some ⟨p, 0, none⟩) pn lc, .func (.func 62) #[] #[.pointer (some ⟨W0.heap.size, 0, none⟩)], .pointer (some ⟨q x.1, 0, none⟩), .pointer (some ⟨q x.1, 0, none⟩), .pointer (some ⟨q x.1, 0, none⟩), .agg (cellsB pg), .pointer (some ⟨w.heap.size, 0, none⟩), .pointer (some ⟨w.heap.size, 0, none⟩), .pointer (some ⟨w.heap.size, 0, none⟩), .pointer (some ⟨w.heap.size, 0, none⟩), .slice pa pre.length pc, .slice (some ⟨w2.heap.size, 0, none⟩) 1 1, undef, undef, undef, undef], defers := [] } (w2.alloc (.cells #[.pointer (some ⟨W.heap.size, 0, none⟩)] 85)) := by
      rw [hR]
      refine wpAnyIn_ready (rs := [6]) (by kernel_rfl) (by simp) (BigFrame.allReadyIn_want rfl rfl (fun K hK => ?_) AllReadyIn.nil)
      · refine stepIn_append_run (.tmp 25) (.tmp 26) 82 rfl _ _ rfl rfl _ hrun.out ?_
        exact hK _ _ ((hR _ _ _ _).1 st0123456)
    have st01234 : R 5 #[true, true, true, true, true, false, false, false, false, false] { tmps := #[.pointer (some ⟨kb, 0, none⟩), undef, .pointer none, .pointer (some ⟨w.heap.size + 1, 0, none⟩), .pointer (some ⟨q x.1, 0, none⟩), .pointer (some ⟨W.heap.size, 0, none⟩), .pointer (some ⟨kb, 0, none⟩), .pointer (some ⟨kb, 0, none⟩), .pointer (some ⟨kb, 1, none⟩), .agg #[.int .i64 lw, .int .i64 ln, .bool lb], .agg #[.slice none 0 0, .int .i64 lw, .int .i64 ln, .bool lb], .pointer (some ⟨w.heap.size, 0, none⟩), .pointer (some ⟨kb, 0, none⟩), .pointer (some ⟨kb, 0, none⟩), .pointer (some ⟨kb, 0, none⟩), .slice (some ⟨p, 0, none⟩) pn lc, .func (.func 62) #[] #[.pointer (some ⟨W0.heap.size, 0, none⟩)], .pointer (some ⟨q x.1, 0, none⟩), .pointer (some ⟨q x.1, 0, none⟩), .pointer (some ⟨q x.1, 0, none⟩), .agg (cellsB pg), .pointer (some ⟨w.heap.size, 0, none⟩), .pointer (some ⟨w.heap.size, 0, none⟩), .pointer (some ⟨w.heap.size, 0, none⟩), .pointer (some ⟨w.heap.size, 0, none⟩), .slice pa pre.length pc, undef, undef, undef, undef, undef], defers := [] } (w2) := by
      rw [hR]
      refine wpAnyIn_ready (rs := [5]) (by kernel_rfl) (by simp) (BigFrame.allReadyIn_want rfl rfl (fun K hK => ?_) AllReadyIn.nil)
      · simp only [List.getElem_toArray, List.getElem_cons_zero, List.getElem_cons_succ]
        first | gi_big_move | gi_big_op
        exact hK _ _ ((hR _ _ _ _).1 st012345)
    have st01235 : R 5 #[true, true, true, true, false, true, false, false, false, false] { tmps := #[.pointer (some ⟨kb, 0, none⟩), undef, .pointer none, .pointer (some ⟨w.heap.size + 1, 0, none⟩), .pointer (some ⟨q x.1, 0, none⟩), .pointer (some ⟨W.heap.size, 0, none⟩), .pointer (some ⟨kb, 0, none⟩), .pointer (some ⟨kb, 0, none⟩), .pointer (some ⟨kb, 1, none⟩), .agg #[.int .i64 lw, .int .i64 ln, .bool lb], .agg #[.slice none 0 0, .int .i64 lw, .int .i64 ln, .bool lb], .pointer (some ⟨w.heap.size, 0, none⟩), .pointer (some ⟨kb, 0, none⟩), .pointer (some ⟨kb, 0, none⟩), .pointer (some ⟨kb, 0, none⟩), .slice (some ⟨p, 0, none⟩) pn lc, .func (.func 62) #[] #[.pointer (some ⟨W0.heap.size, 0, none⟩)], .pointer (some ⟨q x.1, 0, none⟩), .pointer (some ⟨q x.1, 0, none⟩), .pointer (some ⟨q x.1, 0, none⟩), .agg (cellsB pg), .pointer (some ⟨w.heap.size, 0, none⟩), .pointer (some ⟨w.heap.size, 0, none⟩), .pointer (some ⟨w.heap.size, 0, none⟩), .pointer (some ⟨w.heap.size, 0, none⟩), undef, .slice (some ⟨w2.heap.size, 0, none⟩) 1 1, undef, undef, undef, undef], defers := [] } (w2.alloc (.cells #[.pointer (some ⟨W.heap.size, 0, none⟩)] 85)) := by
      rw [hR]
      refine wpAnyIn_ready (rs := [4]) (by kernel_rfl) (by simp) (BigFrame.allReadyIn_want rfl rfl (fun K hK => ?_) AllReadyIn.nil)
      · simp only [List.getElem_toArray, List.getElem_cons_zero, List.getElem_cons_succ]
        first | gi_big_move | gi_big_op
        exact hK _ _ ((hR _ _ _ _).1 st012345)
    have st0123 : R 6 #[true, true, true, true, false, false, false, false, false, false] { tmps := #[.pointer (some ⟨kb, 0, none⟩), undef, .pointer none, .pointer (some ⟨w.heap.size + 1, 0, none⟩), .pointer (some ⟨q x.1, 0, none⟩), .pointer (some ⟨W.heap.size, 0, none⟩), .pointer (some ⟨kb, 0, none⟩), .pointer (some ⟨kb, 0, none⟩), .pointer (some ⟨kb, 1, none⟩), .agg #[.int .i64 lw, .int .i64 ln, .bool lb], .agg #[.slice none 0 0, .int .i64 lw, .int .i64 ln, .bool lb], .pointer (some ⟨w.heap.size, 0, none⟩), .pointer (some ⟨kb, 0, none⟩), .pointer (some ⟨kb, 0, none⟩), .pointer (some ⟨kb, 0, none⟩), .slice (some ⟨p, 0, none⟩) pn lc, .func (.func 62) #[] #[.pointer (some ⟨W0.heap.size, 0, none⟩)], .pointer (some ⟨q x.1, 0, none⟩), .pointer (some ⟨q x.1, 0, none⟩), .pointer (some ⟨q x.1, 0, none⟩), .agg (cellsB pg), .pointer (some ⟨w.heap.size, 0, none⟩), .pointer (some ⟨w.heap.size, 0, none⟩), .pointer (some ⟨w.heap.size, 0, none⟩), .pointer (some ⟨w.heap.size, 0, none⟩), undef, undef, undef, undef, undef, undef], defers := [] } (w2) := by
      rw [hR]
      refine wpAnyIn_ready (rs := [4, 5]) (by kernel_rfl) (by simp) (BigFrame.allReadyIn_want rfl rfl (fun K hK => ?_) (BigFrame.allReadyIn_want rfl rfl (fun K hK => ?_) AllReadyIn.nil))
      · simp only [List.getElem_toArray, List.getElem_cons_zero, List.getElem_cons_succ]
        first | gi_big_move | gi_big_op
        exact hK _ _ ((hR _ _ _ _).1 st01234)
      · simp only [List.getElem_toArray, List.getElem_cons_zero, List.getElem_cons_succ]
        first | gi_big_move | gi_big_op
        exact hK _ _ ((hR _ _ _ _).1 st01235)
    have st0125 : R 6 #[true, true, true, false, false, true, false, false, false, false] { tmps := #[.pointer (some ⟨kb, 0, none⟩), undef, .pointer none, .pointer (some ⟨w.heap.size + 1, 0, none⟩), .pointer (some ⟨q x.1, 0, none⟩), .pointer (some ⟨W.heap.size, 0, none⟩), .pointer (some ⟨kb, 0, none⟩), .pointer (some ⟨kb, 0, none⟩), .pointer (some ⟨kb, 1, none⟩), .agg #[.int .i64 lw, .int .i64 ln, .bool lb], .agg #[.slice none 0 0, .int .i64 lw, .int .i64 ln, .bool lb], .pointer (some ⟨w.heap.size, 0, none⟩), .pointer (some ⟨kb, 0, none⟩), .pointer (some ⟨kb, 0, none⟩), .pointer (some ⟨kb, 0, none⟩), .slice (some ⟨p, 0, none⟩) pn lc, .func (.func 62) #[] #[.pointer (some ⟨W0.heap.size, 0, none⟩)], .pointer (some ⟨q x.1, 0, none⟩), .pointer (some ⟨q x.1, 0, none⟩), .pointer (some ⟨q x.1, 0, none⟩), .agg (cellsB pg), .pointer (some ⟨w.heap.size, 0, none⟩), .pointer (some ⟨w.heap.size, 0, none⟩), .pointer (some ⟨w.heap.size, 0, none⟩), undef, undef, .slice (some ⟨w2.heap.size, 0, none⟩) 1 1, undef, undef, undef, undef], defers := [] } (w2.alloc (.cells #[.pointer (some ⟨W.heap.size, 0, none⟩)] 85)) := by
      rw [hR]
      refine wpAnyIn_ready (rs := [3]) (by kernel_rfl) (by simp) (BigFrame.allReadyIn_want rfl rfl (fun K hK => ?_) AllReadyIn.nil)
      · simp only [List.getElem_toArray, List.getElem_cons_zero, List.getElem_cons_succ]
        first | gi_big_move | gi_big_op
        exact hK _ _ ((hR _ _ _ _).1 st01235)
    have st012 : R 7 #[true, true, true, false, false, false, false, false, false, false] { tmps := #[.pointer (some ⟨kb, 0, none⟩), undef, .pointer none, .pointer (some ⟨w.heap.size + 1, 0, none⟩), .pointer (some ⟨q x.1, 0, none⟩), .pointer (some ⟨W.heap.size, 0, none⟩), .pointer (some ⟨kb, 0, none⟩), .pointer (some ⟨kb, 0, none⟩), .pointer (some ⟨kb, 1, none⟩), .agg #[.int .i64 lw, .int .i64 ln, .bool lb], .agg #[.slice none 0 0, .int .i64 lw, .int .i64 ln, .bool lb], .pointer (some ⟨w.heap.size, 0, none⟩), .pointer (some ⟨kb, 0, none⟩), .pointer (some ⟨kb, 0, none⟩), .pointer (some ⟨kb, 0, none⟩), .slice (some ⟨p, 0, none⟩) pn lc, .func (.func 62) #[] #[.pointer (some ⟨W0.heap.size, 0, none⟩)], .pointer (some ⟨q x.1, 0, none⟩), .pointer (some ⟨q x.1, 0, none⟩), .pointer (some ⟨q x.1, 0, none⟩), .agg (cellsB pg), .pointer (some ⟨w.heap.size, 0, none⟩), .pointer (some ⟨w.heap.size, 0, none⟩), .pointer (some ⟨w.heap.size, 0, none⟩), undef, undef, undef, undef, undef, undef, undef], defers := [] } (w2) := by
      rw [hR]
      refine wpAnyIn_ready (rs := [3, 5]) (by kernel_rfl) (by simp) (BigFrame.allReadyIn_want rfl rfl (fun K hK => ?_) (BigFrame.allReadyIn_want rfl rfl (fun K hK => ?_) AllReadyIn.nil))
      · simp only [List.getElem_toArray, List.getElem_cons_zero, List.getElem_cons_succ]
        first | gi_big_move | gi_big_op
        exact hK _ _ ((hR _ _ _ _).1 st0123)
      · simp only [List.getElem_toArray, List.getElem_cons_zero, List.getElem_cons_succ]
        first | gi_big_move | gi_big_op
        exact hK _ _ ((hR _ _ _ _).1 st0125)
    have st015 : R 7 #[true, true, false, false, false, true, false, false, false, false] { tmps := #[.pointer (some ⟨kb, 0, none⟩), undef, .pointer none, .pointer (some ⟨w.heap.size + 1, 0, none⟩), .pointer (some ⟨q x.1, 0, none⟩), .pointer (some ⟨W.heap.size, 0, none⟩), .pointer (some ⟨kb, 0, none⟩), .pointer (some ⟨kb, 0, none⟩), .pointer (some ⟨kb, 1, none⟩), .agg #[.int .i64 lw, .int .i64 ln, .bool lb], .agg #[.slice none 0 0, .int .i64 lw, .int .i64 ln, .bool lb], .pointer (some ⟨w.heap.size, 0, none⟩), .pointer (some ⟨kb, 0, none⟩), .pointer (some ⟨kb, 0, none⟩), .pointer (some ⟨kb, 0, none⟩), .slice (some ⟨p, 0, none⟩) pn lc, .func (.func 62) #[] #[.pointer (some ⟨W0.heap.size, 0, none⟩)], .pointer (some ⟨q x.1, 0, none⟩), .pointer (some ⟨q x.1, 0, none⟩), .pointer (some ⟨q x.1, 0, none⟩), .agg (cellsB pg), .pointer (some ⟨w.heap.size, 0, none⟩), .pointer (some ⟨w.heap.size, 0, none⟩), undef, undef, undef, .slice (some ⟨w2.heap.size, 0, none⟩) 1 1, undef, undef, undef, undef], defers := [] } (w2.alloc (.cells #[.pointer (some ⟨W.heap.size, 0, none⟩)] 85)) := by
      rw [hR]
      refine wpAnyIn_ready (rs := [2]) (by kernel_rfl) (by simp) (BigFrame.allReadyIn_want rfl rfl (fun K hK => ?_) AllReadyIn.nil)
      · simp only [List.getElem_toArray, List.getElem_cons_zero, List.getElem_cons_succ]
        first | gi_big_move | gi_big_op
        exact hK _ _ ((hR _ _ _ _).1 st0125)
    have st01 : R 8 #[true, true, false, false, false, false, false, false, false, false] { tmps := #[.pointer (some ⟨kb, 0, none⟩), undef, .pointer none, .pointer (some ⟨w.heap.size + 1, 0, none⟩), .pointer (some ⟨q x.1, 0, none⟩), .pointer (some ⟨W.heap.size, 0, none⟩), .pointer (some ⟨kb, 0, none⟩), .pointer (some ⟨kb, 0, none⟩), .pointer (some ⟨kb, 1, none⟩), .agg #[.int .i64 lw, .int .i64 ln, .bool lb], .agg #[.slice none 0 0, .int .i64 lw, .int .i64 ln, .bool lb], .pointer (some ⟨w.heap.size, 0, none⟩), .pointer (some ⟨kb, 0, none⟩), .pointer (some ⟨kb, 0, none⟩), .pointer (some ⟨kb, 0, none⟩), .slice (some ⟨p, 0, none⟩) pn lc, .func (.func 62) #[] #[.pointer (some ⟨W0.heap.size, 0, none⟩)], .pointer (some ⟨q x.1, 0, none⟩), .pointer (some ⟨q x.1, 0, none⟩), .pointer (some ⟨q x.1, 0, none⟩), .agg (cellsB pg), .pointer (some ⟨w.heap.size, 0, none⟩), .pointer (some ⟨w.heap.size, 0, none⟩), undef, undef, undef, undef, undef, undef, undef, undef], defers := [] } (w2) := by
      rw [hR]
      refine wpAnyIn_ready (rs := [2, 5]) (by kernel_rfl) (by simp) (BigFrame.allReadyIn_want rfl rfl (fun K hK => ?_) (BigFrame.allReadyIn_want rfl rfl (fun K hK => ?_) AllReadyIn.nil))
      · simp only [List.getElem_toArray, List.getElem_cons_zero, List.getElem_cons_succ]
        first | gi_big_move | gi_big_op
        exact hK _ _ ((hR _ _ _ _).1 st012)
      · simp only [List.getElem_toArray, List.getElem_cons_zero, List.getElem_cons_succ]
        first | gi_big_move | gi_big_op
        exact hK _ _ ((hR _ _ _ _).1 st015)
    have st05 : R 8 #[true, false, false, false, false, true, false, false, false, false] { tmps := #[.pointer (some ⟨kb, 0, none⟩), undef, .pointer none, .pointer (some ⟨w.heap.size + 1, 0, none⟩), .pointer (some ⟨q x.1, 0, none⟩), .pointer (some ⟨W.heap.size, 0, none⟩), .pointer (some ⟨kb, 0, none⟩), .pointer (some ⟨kb, 0, none⟩), .pointer (some ⟨kb, 1, none⟩), .agg #[.int .i64 lw, .int .i64 ln, .bool lb], .agg #[.slice none 0 0, .int .i64 lw, .int .i64 ln, .bool lb], .pointer (some ⟨w.heap.size, 0, none⟩), .pointer (some ⟨kb, 0, none⟩), .pointer (some ⟨kb, 0, none⟩), .pointer (some ⟨kb, 0, none⟩), .slice (some ⟨p, 0, none⟩) pn lc, .func (.func 62) #[] #[.pointer (some ⟨W0.heap.size, 0, none⟩)], .pointer (some ⟨q x.1, 0, none⟩), .pointer (some ⟨q x.1, 0, none⟩), .pointer (some ⟨q x.1, 0, none⟩), .agg (cellsB pg), .pointer (some ⟨w.heap.size, 0, none⟩), undef, undef, undef, undef, .slice (some ⟨w2.heap.size, 0, none⟩) 1 1, undef, undef, undef, undef], defers := [] } (w2.alloc (.cells #[.pointer (some ⟨W.heap.size, 0, none⟩)] 85)) := by
      rw [hR]
      refine wpAnyIn_ready (rs := [1]) (by kernel_rfl) (by simp) (BigFrame.allReadyIn_want rfl rfl (fun K hK => ?_) AllReadyIn.nil)
      · simp only [List.getElem_toArray, List.getElem_cons_zero, List.getElem_cons_succ]
        first | gi_big_move | gi_big_op
        exact hK _ _ ((hR _ _ _ _).1 st015)
    have st0 : R 9 #[true, false, false, false, false, false, false, false, false, false] { tmps := #[.pointer (some ⟨kb, 0, none⟩), undef, .pointer none, .pointer (some ⟨w.heap.size + 1, 0, none⟩), .pointer (some ⟨q x.1, 0, none⟩), .pointer (some ⟨W.heap.size, 0, none⟩), .pointer (some ⟨kb, 0, none⟩), .pointer (some ⟨kb, 0, none⟩), .pointer (some ⟨kb, 1, none⟩), .agg #[.int .i64 lw, .int .i64 ln, .bool lb], .agg #[.slice none 0 0, .int .i64 lw, .int .i64 ln, .bool lb], .pointer (some ⟨w.heap.size, 0, none⟩), .pointer (some ⟨kb, 0, none⟩), .pointer (some ⟨kb, 0, none⟩), .pointer (some ⟨kb, 0, none⟩), .slice (some ⟨p, 0, none⟩) pn lc, .func (.func 62) #[] #[.pointer (some ⟨W0.heap.size, 0, none⟩)], .pointer (some ⟨q x.1, 0, none⟩), .pointer (some ⟨q x.1, 0, none⟩), .pointer (some ⟨q x.1, 0, none⟩), .agg (cellsB pg), .pointer (some ⟨w.heap.size, 0, none⟩), undef, undef, undef, undef, undef, undef, undef, undef, undef], defers := [] } (w2) := by
      rw [hR]
      refine wpAnyIn_ready (rs := [1, 5]) (by kernel_rfl) (by simp) (BigFrame.allReadyIn_want rfl rfl (fun K hK => ?_) (BigFrame.allReadyIn_want rfl rfl (fun K hK => ?_) AllReadyIn.nil))
      · simp only [List.getElem_toArray, List.getElem_cons_zero, List.getElem_cons_succ]
        first | gi_big_move | gi_big_op
        exact hK _ _ ((hR _ _ _ _).1 st01)
      · simp only [List.getElem_toArray, List.getElem_cons_zero, List.getElem_cons_succ]
        first | gi_big_move | gi_big_op
        exact hK _ _ ((hR _ _ _ _).1 st05)
    have st123456 : R 4 #[false, true, true, true, true, true, true, false, false, false] { tmps := #[.pointer (some ⟨kb, 0, none⟩), undef, .pointer none, .pointer (some ⟨w.heap.size + 1, 0, none⟩), .pointer (some ⟨q x.1, 0, none⟩), .pointer (some ⟨W.heap.size, 0, none⟩), .pointer (some ⟨kb, 0, none⟩), .pointer (some ⟨kb, 0, none⟩), .pointer (some ⟨kb, 1, none⟩), .agg #[.int .i64 lw, .int .i64 ln, .bool lb], .agg #[.slice none 0 0, .int .i64 lw, .int .i64 ln, .bool lb], .pointer (some ⟨w.heap.size, 0, none⟩), .pointer (some ⟨kb, 0, none⟩), .pointer (some ⟨kb, 0, none⟩), .pointer (some ⟨kb, 0, none⟩), .slice (some ⟨p, 0, none⟩) pn lc, .func (.func 62) #[] #[.pointer (some ⟨W0.heap.size, 0, none⟩)], .pointer (some ⟨q x.1, 0, none⟩), .pointer (some ⟨q x.1, 0, none⟩), .pointer (some ⟨q x.1, 0, none⟩), .agg (cellsB pg), undef, .pointer (some ⟨w.heap.size, 0, none⟩), .pointer (some ⟨w.heap.size, 0, none⟩), .pointer (some ⟨w.heap.size, 0, none⟩), .slice pa pre.length pc, .slice (some ⟨w2.heap.size, 0, none⟩) 1 1, .slice va vn vc, undef, undef, undef], defers := [] } (w4) := by
      rw [hR]
      refine wpAnyIn_ready (rs := [0]) (by kernel_rfl) (by simp) (BigFrame.allReadyIn_want rfl rfl (fun K hK => ?_) AllReadyIn.nil)
      · simp only [List.getElem_toArray, List.getElem_cons_zero, List.getElem_cons_succ]
        first | gi_big_move | gi_big_op
        exact hK _ _ ((hR _ _ _ _).1 st0123456)
    have st12345 : R 5 #[false, true, true, true, true, true, false, false, false, false] { tmps := #[.pointer (some ⟨kb, 0, none⟩), undef, .pointer none, .pointer (some ⟨w.heap.size + 1, 0, none⟩), .pointer (some ⟨q x.1, 0, none⟩), .pointer (some ⟨W.heap.size, 0, none⟩), .pointer (some ⟨kb, 0, none⟩), .pointer (some ⟨kb, 0, none⟩), .pointer (some ⟨kb, 1, none⟩), .agg #[.int .i64 lw, .int .i64 ln, .bool lb], .agg #[.slice none 0 0, .int .i64 lw, .int .i64 ln, .bool lb], .pointer (some ⟨w.heap.size, 0, none⟩), .pointer (some ⟨kb, 0, none⟩), .pointer (some ⟨kb, 0, none⟩), .pointer (some ⟨kb, 0, none⟩), .slice (some ⟨p, 0, none⟩) pn lc, .func (.func 62) #[] #[.pointer (some ⟨W0.heap.size, 0, none⟩)], .pointer (some ⟨q x.1, 0, none⟩), .pointer (some ⟨q x.1, 0, none⟩), .pointer (some ⟨q x.1, 0, none⟩), .agg (cellsB pg), undef, .pointer (some ⟨w.heap.size, 0, none⟩), .pointer (some ⟨w.heap.size, 0, none⟩), .pointer (some ⟨w.heap.size, 0, none⟩), .slice pa pre.length pc, .slice (some ⟨w2.heap.size, 0, none⟩) 1 1, undef, undef, undef, undef], defers := [] } (w2.alloc (.cells #[.pointer (some ⟨W.heap.size, 0, none⟩)] 85)) := by
      rw [hR]
      refine wpAnyIn_ready (rs := [0, 6]) (by kernel_rfl) (by simp) (BigFrame.allReadyIn_want rfl rfl (fun K hK => ?_) (BigFrame.allReadyIn_want rfl rfl (fun K hK => ?_) AllReadyIn.nil))
      · simp only [List.getElem_toArray, List.getElem_cons_zero, List.getElem_cons_succ]
        first | gi_big_move | gi_big_op
        exact hK _ _ ((hR _ _ _ _).1 st012345)
      · refine stepIn_append_run (.tmp 25) (.tmp 26) 82 rfl _ _ rfl rfl _ hrun.out ?_
        exact hK _ _ ((hR _ _ _ _).1 st123456)
    have st1234 : R 6 #[false, true, true, true, true, false, false, false, false, false] { tmps := #[.pointer (some ⟨kb, 0, none⟩), undef, .pointer none, .pointer (some ⟨w.heap.size + 1, 0, none⟩), .pointer (some ⟨q x.1, 0, none⟩), .pointer (some ⟨W.heap.size, 0, none⟩), .pointer (some ⟨kb, 0, none⟩), .pointer (some ⟨kb, 0, none⟩), .pointer (some ⟨kb, 1, none⟩), .agg #[.int .i64 lw, .int .i64 ln, .bool lb], .agg #[.slice none 0 0, .int .i64 lw, .int .i64 ln, .bool lb], .pointer (some ⟨w.heap.size, 0, none⟩), .pointer (some ⟨kb, 0, none⟩), .pointer (some ⟨kb, 0, none⟩), .pointer (some ⟨kb, 0, none⟩), .slice (some ⟨p, 0, none⟩) pn lc, .func (.func 62) #[] #[.pointer (some ⟨W0.heap.size, 0, none⟩)], .pointer (some ⟨q x.1, 0, none⟩), .pointer (some ⟨q x.1, 0, none⟩), .pointer (some ⟨q x.1, 0, none⟩), .agg (cellsB pg), undef, .pointer (some ⟨w.heap.size, 0, none⟩), .pointer (some ⟨w.heap.size, 0, none⟩), .pointer (some ⟨w.heap.size, 0, none⟩), .slice pa pre.length pc, undef, undef, undef, undef, undef], defers := [] } (w2) := by
      rw [hR]
      refine wpAnyIn_ready (rs := [0, 5]) (by kernel_rfl) (by simp) (BigFrame.allReadyIn_want rfl rfl (fun K hK => ?_) (BigFrame.allReadyIn_want rfl rfl (fun K hK => ?_) AllReadyIn.nil))
      · simp only [List.getElem_toArray, List.getElem_cons_zero, List.getElem_cons_succ]
        first | gi_big_move | gi_big_op
        exact hK _ _ ((hR _ _ _ _).1 st01234)
      · simp only [List.getElem_toArray, List.getElem_cons_zero, List.getElem_cons_succ]
        first | gi_big_move | gi_big_op
        exact hK _ _ ((hR _ _ _ _).1 st12345)
    have st1235 : R 6 #[false, true, true, true, false, true, false, false, false, false] { tmps := #[.pointer (some ⟨kb, 0, none⟩), undef, .pointer none, .pointer (some ⟨w.heap.size + 1, 0, none⟩), .pointer (some ⟨q x.1, 0, none⟩), .pointer (some ⟨W.heap.size, 0, none⟩), .pointer (some ⟨kb, 0, none⟩), .pointer (some ⟨kb, 0, none⟩), .pointer (some ⟨kb, 1, none⟩), .agg #[.int .i64 lw, .int .i64 ln, .bool lb], .agg #[.slice none 0 0, .int .i64 lw, .int .i64 ln, .bool lb], .pointer (some ⟨w.heap.size, 0, none⟩), .pointer (some ⟨kb, 0, none⟩), .pointer (some ⟨kb, 0, none⟩), .pointer (some ⟨kb, 0, none⟩), .slice (some ⟨p, 0, none⟩) pn lc, .func (.func 62) #[] #[.pointer (some ⟨W0.heap.size, 0, none⟩)], .pointer (some ⟨q x.1, 0, none⟩), .pointer (some ⟨q x.1, 0, none⟩), .pointer (some ⟨q x.1, 0, none⟩), .agg (cellsB pg), undef, .pointer (some ⟨w.heap.size, 0, none⟩), .pointer (some ⟨w.heap.size, 0, none⟩), .pointer (some ⟨w.heap.size, 0, none⟩), undef, .slice (some ⟨w2.heap.size, 0, none⟩) 1 1, undef, undef, undef, undef], defers := [] } (w2.alloc (.cells #[.pointer (some ⟨W.heap.size, 0, none⟩)] 85)) := by
      rw [hR]
      refine wpAnyIn_ready (rs := [0, 4]) (by kernel_rfl) (by simp) (BigFrame.allReadyIn_want rfl rfl (fun K hK => ?_) (BigFrame.allReadyIn_want rfl rfl (fun K hK => ?_) AllReadyIn.nil))
      · simp only [List.getElem_toArray, List.getElem_cons_zero, List.getElem_cons_succ]
        first | gi_big_move | gi_big_op
        exact hK _ _ ((hR _ _ _ _).1 st01235)
      · simp only [List.getElem_toArray, List.getElem_cons_zero, List.getElem_cons_succ]
        first | gi_big_move | gi_big_op
        exact hK _ _ ((hR _ _ _ _).1 st12345)
    have st123 : R 7 #[false, true, true, true, false, false, false, false, false, false] { tmps := #[.pointer (some ⟨kb, 0, none⟩), undef, .pointer none, .pointer (some ⟨w.heap.size + 1, 0, none⟩), .pointer (some ⟨q x.1, 0, none⟩), .pointer (some ⟨W.heap.size, 0, none⟩), .pointer (some ⟨kb, 0, none⟩), .pointer (some ⟨kb, 0, none⟩), .pointer (some ⟨kb, 1, none⟩), .agg #[.int .i64 lw, .int .i64 ln, .bool lb], .agg #[.slice none 0 0, .int .i64 lw, .int .i64 ln, .bool lb], .pointer (some ⟨w.heap.size, 0, none⟩), .pointer (some ⟨kb, 0, none⟩), .pointer (some ⟨kb, 0, none⟩), .pointer (some ⟨kb, 0, none⟩), .slice (some ⟨p, 0, none⟩) pn lc, .func (.func 62) #[] #[.pointer (some ⟨W0.heap.size, 0, none⟩)], .pointer (some ⟨q x.1, 0, none⟩), .pointer (some ⟨q x.1, 0, none⟩), .pointer (some ⟨q x.1, 0, none⟩), .agg (cellsB pg), undef, .pointer (some ⟨w.heap.size, 0, none⟩), .pointer (some ⟨w.heap.size, 0, none⟩), .pointer (some ⟨w.heap.size, 0, none⟩), undef, undef, undef, undef, undef, undef], defers := [] } (w2) := by
      rw [hR]
      refine wpAnyIn_ready (rs := [0, 4, 5]) (by kernel_rfl) (by simp) (BigFrame.allReadyIn_want rfl rfl (fun K hK => ?_) (BigFrame.allReadyIn_want rfl rfl (fun K hK => ?_) (BigFrame.allReadyIn_want rfl rfl (fun K hK => ?_) AllReadyIn.nil)))
      · simp only [List.getElem_toArray, List.getElem_cons_zero, List.getElem_cons_succ]
        first | gi_big_move | gi_big_op
        exact hK _ _ ((hR _ _ _ _).1 st0123)
      · simp only [List.getElem_toArray, List.getElem_cons_zero, List.getElem_cons_succ]
        first | gi_big_move | gi_big_op
        exact hK _ _ ((hR _ _ _ _).1 st1234)
      · simp only [List.getElem_toArray, List.getElem_cons_zero, List.getElem_cons_succ]
        first | gi_big_move | gi_big_op
        exact hK _ _ ((hR _ _ _ _).1 st1235)
    have st125 : R 7 #[false, true, true, false, false, true, false, false, false, false] { tmps := #[.pointer (some ⟨kb, 0, none⟩), undef, .pointer none, .pointer (some ⟨w.heap.size + 1, 0, none⟩), .pointer (some ⟨q x.1, 0, none⟩), .pointer (some ⟨W.heap.size, 0, none⟩), .pointer (some ⟨kb, 0, none⟩), .pointer (some ⟨kb, 0, none⟩), .pointer (some ⟨kb, 1, none⟩), .agg #[.int .i64 lw, .int .i64 ln, .bool lb], .agg #[.slice none 0 0, .int .i64 lw, .int .i64 ln, .bool lb], .pointer (some ⟨w.heap.size, 0, none⟩), .pointer (some ⟨kb, 0, none⟩), .pointer (some ⟨kb, 0, none⟩), .pointer (some ⟨kb, 0, none⟩), .slice (some ⟨p, 0, none⟩) pn lc, .func (.func 62) #[] #[.pointer (some ⟨W0.heap.size, 0, none⟩)], .pointer (some ⟨q x.1, 0, none⟩), .pointer (some ⟨q x.1, 0, none⟩), .pointer (some ⟨q x.1, 0, none⟩), .agg (cellsB pg), undef, .pointer (some ⟨w.heap.size, 0, none⟩), .pointer (some ⟨w.heap.size, 0, none⟩), undef, undef, .slice (some ⟨w2.heap.size, 0, none⟩) 1 1, undef, undef, undef, undef], defers := [] } (w2.alloc (.cells #[.pointer (some ⟨W.heap.size, 0, none⟩)] 85)) := by
      rw [hR]
      refine wpAnyIn_ready (rs := [0, 3]) (by kernel_rfl) (by simp) (BigFrame.allReadyIn_want rfl rfl (fun K hK => ?_) (BigFrame.allReadyIn_want rfl rfl (fun K hK => ?_) AllReadyIn.nil))
      · simp only [List.getElem_toArray, List.getElem_cons_zero, List.getElem_cons_succ]
        first | gi_big_move | gi_big_op
        exact hK _ _ ((hR _ _ _ _).1 st0125)
      · simp only [List.getElem_toArray, List.getElem_cons_zero, List.getElem_cons_succ]
        first | gi_big_move | gi_big_op
        exact hK _ _ ((hR _ _ _ _).1 st1235)
    have st12 : R 8 #[false, true, true, false, false, false, false, false, false, false] { tmps := #[.pointer (some ⟨kb, 0, none⟩), undef, .pointer none, .pointer (some ⟨w.heap.size + 1, 0, none⟩), .pointer (some ⟨q x.1, 0, none⟩), .pointer (some ⟨W.heap.size, 0, none⟩), .pointer (some ⟨kb, 0, none⟩), .pointer (some ⟨kb, 0, none⟩), .pointer (some ⟨kb, 1, none⟩), .agg #[.int .i64 lw, .int .i64 ln, .bool lb], .agg #[.slice none 0 0, .int .i64 lw, .int .i64 ln, .bool lb], .pointer (some ⟨w.heap.size, 0, none⟩), .pointer (some ⟨kb, 0, none⟩), .pointer (some ⟨kb, 0, none⟩), .pointer (some ⟨kb, 0, none⟩), .slice (some ⟨p, 0, none⟩) pn lc, .func (.func 62) #[] #[.pointer (some ⟨W0.heap.size, 0, none⟩)], .pointer (some ⟨q x.1, 0, none⟩), .pointer (some ⟨q x.1, 0, none⟩), .pointer (some ⟨q x.1, 0, none⟩), .agg (cellsB pg), undef, .pointer (some ⟨w.heap.size, 0, none⟩), .pointer (some ⟨w.heap.size, 0, none⟩), undef, undef, undef, undef, undef, undef, undef], defers := [] } (w2) := by
      rw [hR]
      refine wpAnyIn_ready (rs := [0, 3, 5]) (by kernel_rfl) (by simp) (BigFrame.allReadyIn_want rfl rfl (fun K hK => ?_) (BigFrame.allReadyIn_want rfl rfl (fun K hK => ?_) (BigFrame.allReadyIn_want rfl rfl (fun K hK => ?_) AllReadyIn.nil)))
      · simp only [List.getElem_toArray, List.getElem_cons_zero, List.getElem_cons_succ]
        first | gi_big_move | gi_big_op
        exact hK _ _ ((hR _ _ _ _).1 st012)
      · simp only [List.getElem_toArray, List.getElem_cons_zero, List.getElem_cons_succ]
        first | gi_big_move | gi_big_op
        exact hK _ _ ((hR _ _ _ _).1 st123)
      · simp only [List.getElem_toArray, List.getElem_cons_zero, List.getElem_cons_succ]
        first | gi_big_move | gi_big_op
        exact hK _ _ ((hR _ _ _ _).1 st125)
    have st15 : R 8 #[false, true, false, false, false, true, false, false, false, false] { tmps := #[.pointer (some ⟨kb, 0, none⟩), undef, .pointer none, .pointer (some ⟨w.heap.size + 1, 0, none⟩), .pointer (some ⟨q x.1, 0, none⟩), .pointer (some ⟨W.heap.size, 0, none⟩), .pointer (some ⟨kb, 0, none⟩), .pointer (some ⟨kb, 0, none⟩), .pointer (some ⟨kb, 1, none⟩), .agg #[.int .i64 lw, .int .i64 ln, .bool lb], .agg #[.slice none 0 0, .int .i64 lw, .int .i64 ln, .bool lb], .pointer (some ⟨w.heap.size, 0, none⟩), .pointer (some ⟨kb, 0, none⟩), .pointer (some ⟨kb, 0, none⟩), .pointer (some ⟨kb, 0, none⟩), .slice (some ⟨p, 0, none⟩) pn lc, .func (.func 62) #[] #[.pointer (some ⟨W0.heap.size, 0, none⟩)], .pointer (some ⟨q x.1, 0, none⟩), .pointer (some ⟨q x.1, 0, none⟩), .pointer (some ⟨q x.1, 0, none⟩), .agg (cellsB pg), undef, .pointer (some ⟨w.heap.size, 0, none⟩), undef, undef, undef, .slice (some ⟨w2.heap.size, 0, none⟩) 1 1, undef, undef, undef, undef], defers := [] } (w2.alloc (.cells #[.pointer (some ⟨W.heap.size, 0, none⟩)] 85)) := by
      rw [hR]
      refine wpAnyIn_ready (rs := [0, 2]) (by kernel_rfl) (by simp) (BigFrame.allReadyIn_want rfl rfl (fun K hK => ?_) (BigFrame.allReadyIn_want rfl rfl (fun K hK => ?_) AllReadyIn.nil))
      · simp only [List.getElem_toArray, List.getElem_cons_zero, List.getElem_cons_succ]
        first | gi_big_move | gi_big_op
        exact hK _ _ ((hR _ _ _ _).1 st015)
      · simp only [List.getElem_toArray, List.getElem_cons_zero, List.getElem_cons_succ]
        first | gi_big_move | gi_big_op
        exact hK _ _ ((hR _ _ _ _).1 st125)
    have st1 : R 9 #[false, true, false, false, false, false, false, false, false, false] { tmps := #[.pointer (some ⟨kb, 0, none⟩), undef, .pointer none, .pointer (some ⟨w.heap.size + 1, 0, none⟩), .pointer (some ⟨q x.1, 0, none⟩), .pointer (some ⟨W.heap.size, 0, none⟩), .pointer (some ⟨kb, 0, none⟩), .pointer (some ⟨kb, 0, none⟩), .pointer (some ⟨kb, 1, none⟩), .agg #[.int .i64 lw, .int .i64 ln, .bool lb], .agg #[.slice none 0 0, .int .i64 lw, .int .i64 ln, .bool lb], .pointer (some ⟨w.heap.size, 0, none⟩), .pointer (some ⟨kb, 0, none⟩), .pointer (some ⟨kb, 0, none⟩), .pointer (some ⟨kb, 0, none⟩), .slice (some ⟨p, 0, none⟩) pn lc, .func (.func 62) #[] #[.pointer (some ⟨W0.heap.size, 0, none⟩)], .pointer (some ⟨q x.1, 0, none⟩), .pointer (some ⟨q x.1, 0, none⟩), .pointer (some ⟨q x.1, 0, none⟩), .agg (cellsB pg), undef, .pointer (some ⟨w.heap.size, 0, none⟩), undef, undef, undef, undef, undef, undef, undef, undef], defers := [] } (w2) := by
      rw [hR]
      refine wpAnyIn_ready (rs := [0, 2, 5]) (by kernel_rfl) (by simp) (BigFrame.allReadyIn_want rfl rfl (fun K hK => ?_) (BigFrame.allReadyIn_want rfl rfl (fun K hK => ?_) (BigFrame.allReadyIn_want rfl rfl (fun K hK => ?_) AllReadyIn.nil)))
      · simp only [List.getElem_toArray, List.getElem_cons_zero, List.getElem_cons_succ]
        first | gi_big_move | gi_big_op
        exact hK _ _ ((hR _ _ _ _).1 st01)
      · simp only [List.getElem_toArray, List.getElem_cons_zero, List.getElem_cons_succ]
        first | gi_big_move | gi_big_op
        exact hK _ _ ((hR _ _ _ _).1 st12)
      · simp only [List.getElem_toArray, List.getElem_cons_zero, List.getElem_cons_succ]
        first | gi_big_move | gi_big_op
        exact hK _ _ ((hR _ _ _ _).1 st15)
    have st5 : R 9 #[false, false, false, false, false, true, false, false, false, false] { tmps := #[.pointer (some ⟨kb, 0, none⟩), undef, .pointer none, .pointer (some ⟨w.heap.size + 1, 0, none⟩), .pointer (some ⟨q x.1, 0, none⟩), .pointer (some ⟨W.heap.size, 0, none⟩), .pointer (some ⟨kb, 0, none⟩), .pointer (some ⟨kb, 0, none⟩), .pointer (some ⟨kb, 1, none⟩), .agg #[.int .i64 lw, .int .i64 ln, .bool lb], .agg #[.slice none 0 0, .int .i64 lw, .int .i64 ln, .bool lb], .pointer (some ⟨w.heap.size, 0, none⟩), .pointer (some ⟨kb, 0, none⟩), .pointer (some ⟨kb, 0, none⟩), .pointer (some ⟨kb, 0, none⟩), .slice (some ⟨p, 0, none⟩) pn lc, .func (.func 62) #[] #[.pointer (some ⟨W0.heap.size, 0, none⟩)], .pointer (some ⟨q x.1, 0, none⟩), .pointer (some ⟨q x.1, 0, none⟩), .pointer (some ⟨q x.1, 0, none⟩), .agg (cellsB pg), undef, undef, undef, undef, undef, .slice (some ⟨w2.heap.size, 0, none⟩) 1 1, undef, undef, undef, undef], defers := [] } (w2.alloc (.cells #[.pointer (some ⟨W.heap.size, 0, none⟩)] 85)) := by
      rw [hR]
      refine wpAnyIn_ready (rs := [0, 1]) (by kernel_rfl) (by simp) (BigFrame.allReadyIn_want rfl rfl (fun K hK => ?_) (BigFrame.allReadyIn_want rfl rfl (fun K hK => ?_) AllReadyIn.nil))
      · simp only [List.getElem_toArray, List.getElem_cons_zero, List.getElem_cons_succ]
        first | gi_big_move | gi_big_op
        exact hK _ _ ((hR _ _ _ _).1 st05)
      · simp only [List.getElem_toArray, List.getElem_cons_zero, List.getElem_cons_succ]
        first | gi_big_move | gi_big_op
        exact hK _ _ ((hR _ _ _ _).1 st15)
    have st : R 10 #[false, false, false, false, false, false, false, false, false, false] { tmps := #[.pointer (some ⟨kb, 0, none⟩), undef, .pointer none, .pointer (some ⟨w.heap.size + 1, 0, none⟩), .pointer (some ⟨q x.1, 0, none⟩), .pointer (some ⟨W.heap.size, 0, none⟩), .pointer (some ⟨kb, 0, none⟩), .pointer (some ⟨kb, 0, none⟩), .pointer (some ⟨kb, 1, none⟩), .agg #[.int .i64 lw, .int .i64 ln, .bool lb], .agg #[.slice none 0 0, .int .i64 lw, .int .i64 ln, .bool lb], .pointer (some ⟨w.heap.size, 0, none⟩), .pointer (some ⟨kb, 0, none⟩), .pointer (some ⟨kb, 0, none⟩), .pointer (some ⟨kb, 0, none⟩), .slice (some ⟨p, 0, none⟩) pn lc, .func (.func 62) #[] #[.pointer (some ⟨W0.heap.size, 0, none⟩)], .pointer (some ⟨q x.1, 0, none⟩), .pointer (some ⟨q x.1, 0, none⟩), .pointer (some ⟨q x.1, 0, none⟩), .agg (cellsB pg), undef, undef, undef, undef, undef, undef, undef, undef, undef, undef], defers := [] } (w2) := by
      rw [hR]
      refine wpAnyIn_ready (rs := [0, 1, 5]) (by kernel_rfl) (by simp) (BigFrame.allReadyIn_want rfl rfl (fun K hK => ?_) (BigFrame.allReadyIn_want rfl rfl (fun K hK => ?_) (BigFrame.allReadyIn_want rfl rfl (fun K hK => ?_) AllReadyIn.nil)))
      · simp only [List.getElem_toArray, List.getElem_cons_zero, List.getElem_cons_succ]
        first | gi_big_move | gi_big_op
        exact hK _ _ ((hR _ _ _ _).1 st0)
      · simp only [List.getElem_toArray, List.getElem_cons_zero, List.getElem_cons_succ]
        first | gi_big_move | gi_big_op
        exact hK _ _ ((hR _ _ _ _).1 st1)
      · simp only [List.getElem_toArray, List.getElem_cons_zero, List.getElem_cons_succ]
        first | gi_big_move | gi_big_op
        exact hK _ _ ((hR _ _ _ _).1 st5)
    exact st
  case done =>
    rintro D ys W hD hys ⟨h1, ⟨pa, pc, qf, hC⟩, hB⟩ hK
    rw [hys] at hC
    have k1 := h1.get 0 _ rfl
    rw [idx_len] at hC
    have hC' := Lib.hid (hC.congr (bk' := ⟨pgs, ⟨lw, ln, lb⟩⟩) rfl (fun y hy => (bk_all pn pgs _ y hy).symm))
    clear hC
    gi_wp2
    refine ⟨by simp, .inl ⟨_, _, rfl, run_takeDeferred hK, ?_⟩⟩
    refine ⟨_, results_tmp (fn := Try.f43) (t := 2) rfl _ _ _, w.heap.size, pa, pc, qf, rfl, hC'.out.walked (grownBy_putObj' _ D (.deferred none)) (fun r e => by cases e; exact ⟨_, hK, rfl⟩), hB.trans (belowK_b (w := w) (Nat.le_refl _) W D _ _ (by omega) hK rfl rfl)⟩
  case stop =>
    rintro D c pre W _ _ h _
    exact h.elim
end Go.Proofs.Ytlgjlhgdpiipbaa
