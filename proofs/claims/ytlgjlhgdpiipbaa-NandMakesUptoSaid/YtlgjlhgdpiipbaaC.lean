/- A page's bytes copied: (*bytes).page, of. -/
import Derived.Test.YtlgjlhgdpiipbaaB
import Derived.Deep.RegionHeld3
import Derived.Deep.DeepCutAuto
namespace Go.Proofs.Ytlgjlhgdpiipbaa
open Go.RowKit
def splice (l : List UInt8) (i : Nat) (xs : List UInt8) : List UInt8 := l.take i ++ xs ++ l.drop (i + xs.length)
theorem splice_len (l : List UInt8) (i : Nat) (xs : List UInt8) (h : i + xs.length ≤ l.length) : (splice l i xs).length = l.length := by unfold splice; simp; omega
theorem splice_all (l xs : List UInt8) (h : xs.length = l.length) : splice l 0 xs = xs := by unfold splice; rw [Nat.zero_add, List.drop_eq_nil_of_le (by omega)]; simp
theorem splice_two (l xs : List UInt8) (hl : l.length = 288) (hx : xs.length = 288) : splice (splice l 0 (xs.take 256)) 256 (xs.drop 256) = xs := by
  have h1 : (xs.take 256).length = 256 := by rw [List.length_take]; omega
  have h2 : (xs.drop 256).length = 32 := by rw [List.length_drop]; omega
  have h3 : splice l 0 (xs.take 256) = xs.take 256 ++ l.drop 256 := by
    unfold splice
    rw [List.take_zero, List.nil_append, Nat.zero_add, h1]
  have e1 : List.take 256 (xs.take 256 ++ l.drop 256) = xs.take 256 := by rw [List.take_append_of_le_length (by omega), List.take_take]; simp
  have e2 : List.drop (256 + (xs.drop 256).length) (xs.take 256 ++ l.drop 256) = [] := List.drop_eq_nil_of_le (by rw [List.length_append, h1, h2, List.length_drop]; omega)
  rw [h3]
  unfold splice
  rw [e1, e2, List.append_nil, List.take_append_drop]
theorem size5 : (Try.prog.info? 5).map (·.size) = some 1 := by kernel_rfl
/-- copy of bytes into a block of the call's own. -/
theorem Box.copy {W : World} {g : Nat} {t : TypeId} {cur : List UInt8} (h : Box W g t (cellsB cur)) (off : Nat) (s : List UInt8) (hf : off + s.length ≤ cur.length) (ad : Addr) (dLen dCap sLen sCap : Nat) (hn : s.length = Nat.min sLen dLen)
    (hs : ∀ j (hj : j < s.length), W.cell? (ad.add j) = some (byteV s[j])) (ty : TypeId) :
    (Builtin.copy_ #[65, 65] ty #[.slice (some ⟨g, off, none⟩) dLen dCap, .slice (some ad) sLen sCap]).run Try.prog W = .ok (goInt s.length) (W.setRow g (cellsB (splice cur off s))) ∧ Box (W.setRow g (cellsB (splice cur off s))) g t (cellsB (splice cur off s)) ∧ W.grownBy (W.setRow g (cellsB (splice cur off s))) (some g) := by
  have hr := run_copy_row (P := Try.prog) W 65 65 ty 5 g off dLen dCap ad sLen sCap (cellsB cur) t (s.map byteV) Try.underlying65 size5 h (by rw [List.length_map]; exact hn) (fun j v hv => by
    rw [List.getElem?_map] at hv
    obtain ⟨c, hc, rfl⟩ := Option.map_eq_some_iff.1 hv
    obtain ⟨hj, rfl⟩ := List.getElem?_eq_some_iff.1 hc
    exact hs j hj) (by rw [List.length_map, cellsB_size]; exact hf) (fun v hv => by obtain ⟨c, _, rfl⟩ := List.mem_map.1 hv; rfl)
  have he : ((cellsB cur).toList.take off ++ s.map byteV ++ (cellsB cur).toList.drop (off + (s.map byteV).length)).toArray = cellsB (splice cur off s) := by
    unfold cellsB splice
    simp [List.map_take, List.map_drop]
  rw [he, List.length_map] at hr
  exact ⟨hr, setRow_heap W g _ _ t (0, 0) h, rfl, rfl, rfl, by simp [World.setRow], fun k _ hne => setRow_other W g k _ (fun e => hne (by rw [e]))⟩
/-- A copy as one step of a region that draws its order, by its run. -/
theorem step_copy_run {P : Program} {ops : Array Oper} {o : Oper} {a : Act} {w : World} {K : Act → World → Prop} {Q : Exit → Act → World → Prop} {E : Prop} (hgd : o.guard = none) (d s : Operand) (dT sT : TypeId)
    (ho : o.op = .call { callee := .builtin .copy, args := #[d, s], argTypes := #[dT, sT] }) (v u : Value) (hd : a.eval d = v) (hs : a.eval s = u) (r : Value) (w' : World)
    (hrun : (Builtin.copy_ #[dT, sT] o.type #[v, u]).run P w = .ok r w') (hK : K (a.put o.dst r) w') :
    if Region.wanted o (yielded ops a.tmps) = true then Oper.wp P o a w K Q else E := by
  have hw : Region.wanted o (yielded ops a.tmps) = true := by simp [Region.wanted, hgd]
  rw [if_pos hw]
  unfold Oper.wp
  simp [execOp, ho, resolve, invoke, builtin, hd, hs, hrun, Result.andThen]
  exact hK
theorem res38 {W : World} {b : Nat} {t : TypeId} {l : List UInt8} (h : Box W b t (cellsB l)) (hl : l.length = 288) {tmps : Array Value} (h2 : tmps.getD 2 undef = .pointer (some ⟨b, 0, none⟩)) :
    (results Try.f38 tmps).run Try.prog W = .ok (pgV l) W := by
  have h3 := h.loadPg hl
  simp at h2
  simp [results, Try.results38, asAddr, h2, h3]
/-- A page as a value. -/
def PgRes (l : List UInt8) (w : World) (e : Ending) (w' : World) : Prop := e = .returned (pgV l) ∧ Below w.heap.size w w'
set_option maxRecDepth 100000 in
set_option maxHeartbeats 4000000 in
theorem bpage_any (l : List UInt8) (b0 : Nat) (t0 : TypeId) (w : World) (h0 : Box w b0 t0 (cellsB l)) (hl : l.length = 288) : Calls Try.prog 38 #[.pointer (some ⟨b0, 0, none⟩)] w (PgRes l w) := by
  have hz := zero48
  have b1 := (Box.new w 48 (cellsB (rep 288 0))).alloc (.cells (cellsB (rep 288 0)) 48)
  have b2 := Box.new (w.alloc (.cells (cellsB (rep 288 0)) 48)) 48 (cellsB (rep 288 0))
  have hB := (Below.refl w.heap.size w).alloc (Nat.le_refl _) (.cells (cellsB (rep 288 0)) 48)
  replace hB := hB.alloc hB.size (.cells (cellsB (rep 288 0)) 48)
  have h1 := h0.below hB
  have hb0 := h0.lt
  rw [World.size_alloc] at b2
  obtain ⟨W0, hW0⟩ : ∃ W0, (w.alloc (.cells (cellsB (rep 288 0)) 48)).alloc (.cells (cellsB (rep 288 0)) 48) = W0 := ⟨_, rfl⟩
  rw [hW0] at b1 b2 hB h1
  clear h0
  go_enter Try.func38, Try.ntmps38
  go_upto_region 2 with fail
  clear hz hW0
  have t1 : (l.take 256).length = 256 := by rw [List.length_take]; omega
  have t2 : (l.drop 256).length = 32 := by rw [List.length_drop]; omega
  obtain ⟨hc1, b3, hg1⟩ := (Box.drew b2).copy 0 (l.take 256) (by rw [t1, rep_len]; omega) ⟨b0, 0, none⟩ 256 256 256 288 (by rw [t1]; rfl) (fun j hj => by
    rw [t1] at hj
    have hadd : (⟨b0, 0, none⟩ : Addr).add j = ⟨b0, j, none⟩ := by unfold Addr.add; split <;> simp_all
    rw [hadd, (Box.drew h1).get j _ (cellsB_get l j (by omega)), List.getElem_take]) 3
  have h2 := (Box.drew h1).grown hg1 (by simp; omega)
  have b4 := (Box.drew b1).grown hg1 (by simp)
  have hB3 := (Below.drew hB).grown hg1 (Nat.le_trans hB.size (Nat.le_refl _)) (fun k e => by cases e; omega)
  rw [t1] at hc1
  obtain ⟨W1, hW1⟩ : ∃ W1, W0.drew.setRow (w.heap.size + 1) (cellsB (splice (rep 288 0) 0 (l.take 256))) = W1 := ⟨_, rfl⟩
  rw [hW1] at hc1 b3 h2 b4 hB3
  have hs3 : (splice (rep 288 0) 0 (l.take 256)).length = 288 := by rw [splice_len _ _ _ (by rw [t1, rep_len]; omega), rep_len]
  replace hc1 := Lib.hid hc1
  clear hW1 hg1 b1 b2 hB h1
  refine wp_region_noPanic ?_
  refine wp_region_held_drew (S := fun _ => True) (by kernel_rfl) (trivial) (fun hHeld => ?_)
  refine wpAnyH_take (i := 0) (v := ?_) rfl (by kernel_rfl) (by kernel_rfl) (by kernel_rfl) (fun _ _ _ h => h) (Or.inl ⟨rfl, ?_⟩) (by assumption) ?_
  rotate_left
  · intro W hSw
    (try dsimp only at hSw)
    go_simp
    try with_reducible rfl
  try simp only [List.getElem_toArray, List.getElem_cons_zero, List.getElem_cons_succ, Act.put, List.setIfInBounds_toArray, List.set_cons_zero, List.set_cons_succ]
  refine wpAnyH_take (i := 1) (v := ?_) rfl (by kernel_rfl) (by kernel_rfl) (by kernel_rfl) (fun _ _ _ h => h) (Or.inl ⟨rfl, ?_⟩) (by assumption) ?_
  rotate_left
  · intro W hSw
    (try dsimp only at hSw)
    go_simp
    try with_reducible rfl
  try simp only [List.getElem_toArray, List.getElem_cons_zero, List.getElem_cons_succ, Act.put, List.setIfInBounds_toArray, List.set_cons_zero, List.set_cons_succ]
  refine wpAnyH_take (i := 2) (v := ?_) rfl (by kernel_rfl) (by kernel_rfl) (by kernel_rfl) (fun _ _ _ h => h) (Or.inl ⟨rfl, ?_⟩) (by assumption) ?_
  rotate_left
  · intro W hSw
    (try dsimp only at hSw)
    go_simp
    try with_reducible rfl
  try simp only [List.getElem_toArray, List.getElem_cons_zero, List.getElem_cons_succ, Act.put, List.setIfInBounds_toArray, List.set_cons_zero, List.set_cons_succ]
  refine wpAnyH_take (i := 3) (v := ?_) rfl (by kernel_rfl) (by kernel_rfl) (by kernel_rfl) (fun _ _ _ h => h) (Or.inl ⟨rfl, ?_⟩) (by assumption) ?_
  rotate_left
  · intro W hSw
    (try dsimp only at hSw)
    go_simp
    try with_reducible rfl
  try simp only [List.getElem_toArray, List.getElem_cons_zero, List.getElem_cons_succ, Act.put, List.setIfInBounds_toArray, List.set_cons_zero, List.set_cons_succ]
  refine wpAnyH_take (i := 4) (v := ?_) rfl (by kernel_rfl) (by kernel_rfl) (by kernel_rfl) (fun _ _ _ h => h) (Or.inl ⟨rfl, ?_⟩) (by assumption) ?_
  rotate_left
  · intro W hSw
    (try dsimp only at hSw)
    go_simp
    try with_reducible rfl
  try simp only [List.getElem_toArray, List.getElem_cons_zero, List.getElem_cons_succ, Act.put, List.setIfInBounds_toArray, List.set_cons_zero, List.set_cons_succ]
  refine wpAnyH_ready (rs := [5]) (by kernel_rfl) (by simp) (AllReadyH.cons rfl (fun K hK => ?_) AllReadyH.nil)
  refine step_copy_run rfl (.tmp 5) (.tmp 8) 65 65 rfl _ _ rfl rfl _ _ hc1.out ?_
  refine hK.out _ _ trivial (fun hHeld => ?_)
  clear hK
  try simp only [List.getElem_toArray, List.getElem_cons_zero, List.getElem_cons_succ, Act.put, List.setIfInBounds_toArray, List.set_cons_zero, List.set_cons_succ]
  refine wpAnyH_done (by kernel_rfl) ?_ _
  (try dsimp only [NoPanic])
  go_upto_region 3 with fail
  obtain ⟨hc2, b5, hg2⟩ := (Box.drew b3).copy 256 (l.drop 256) (by rw [t2, hs3]; omega) ⟨b0, 256, none⟩ 32 32 32 32 (by rw [t2]; rfl) (fun j hj => by
    rw [t2] at hj
    have hadd : (⟨b0, 256, none⟩ : Addr).add j = ⟨b0, 256 + j, none⟩ := by unfold Addr.add; split <;> simp_all
    rw [hadd, (Box.drew h2).get (256 + j) _ (cellsB_get l (256 + j) (by omega)), List.getElem_drop]) 3
  have b6 := (Box.drew b4).grown hg2 (by simp)
  have hB5 := (Below.drew hB3).grown hg2 (Nat.le_trans hB3.size (Nat.le_refl _)) (fun k e => by cases e; omega)
  rw [splice_two _ _ (rep_len _ _) hl] at hc2 b5 b6 hB5
  rw [t2] at hc2
  obtain ⟨W2, hW2⟩ : ∃ W2, W1.drew.setRow (w.heap.size + 1) (cellsB l) = W2 := ⟨_, rfl⟩
  rw [hW2] at hc2 b5 b6 hB5
  replace hc2 := Lib.hid hc2
  clear hW2 hg2 b3 b4 hB3 h2 hc1
  refine wp_region_noPanic ?_
  refine wp_region_held_drew (S := fun _ => True) (by kernel_rfl) (trivial) (fun hHeld => ?_)
  refine wpAnyH_take (i := 0) (v := ?_) rfl (by kernel_rfl) (by kernel_rfl) (by kernel_rfl) (fun _ _ _ h => h) (Or.inl ⟨rfl, ?_⟩) (by assumption) ?_
  rotate_left
  · intro W hSw
    (try dsimp only at hSw)
    go_simp
    try with_reducible rfl
  try simp only [List.getElem_toArray, List.getElem_cons_zero, List.getElem_cons_succ, Act.put, List.setIfInBounds_toArray, List.set_cons_zero, List.set_cons_succ]
  refine wpAnyH_take (i := 1) (v := ?_) rfl (by kernel_rfl) (by kernel_rfl) (by kernel_rfl) (fun _ _ _ h => h) (Or.inl ⟨rfl, ?_⟩) (by assumption) ?_
  rotate_left
  · intro W hSw
    (try dsimp only at hSw)
    go_simp
    try with_reducible rfl
  try simp only [List.getElem_toArray, List.getElem_cons_zero, List.getElem_cons_succ, Act.put, List.setIfInBounds_toArray, List.set_cons_zero, List.set_cons_succ]
  refine wpAnyH_take (i := 2) (v := ?_) rfl (by kernel_rfl) (by kernel_rfl) (by kernel_rfl) (fun _ _ _ h => h) (Or.inl ⟨rfl, ?_⟩) (by assumption) ?_
  rotate_left
  · intro W hSw
    (try dsimp only at hSw)
    go_simp
    try with_reducible rfl
  try simp only [List.getElem_toArray, List.getElem_cons_zero, List.getElem_cons_succ, Act.put, List.setIfInBounds_toArray, List.set_cons_zero, List.set_cons_succ]
  refine wpAnyH_take (i := 3) (v := ?_) rfl (by kernel_rfl) (by kernel_rfl) (by kernel_rfl) (fun _ _ _ h => h) (Or.inl ⟨rfl, ?_⟩) (by assumption) ?_
  rotate_left
  · intro W hSw
    (try dsimp only at hSw)
    go_simp
    try with_reducible rfl
  try simp only [List.getElem_toArray, List.getElem_cons_zero, List.getElem_cons_succ, Act.put, List.setIfInBounds_toArray, List.set_cons_zero, List.set_cons_succ]
  refine wpAnyH_take (i := 4) (v := ?_) rfl (by kernel_rfl) (by kernel_rfl) (by kernel_rfl) (fun _ _ _ h => h) (Or.inl ⟨rfl, ?_⟩) (by assumption) ?_
  rotate_left
  · intro W hSw
    (try dsimp only at hSw)
    go_simp
    try with_reducible rfl
  try simp only [List.getElem_toArray, List.getElem_cons_zero, List.getElem_cons_succ, Act.put, List.setIfInBounds_toArray, List.set_cons_zero, List.set_cons_succ]
  refine wpAnyH_ready (rs := [5]) (by kernel_rfl) (by simp) (AllReadyH.cons rfl (fun K hK => ?_) AllReadyH.nil)
  refine step_copy_run rfl (.tmp 11) (.tmp 14) 65 65 rfl _ _ rfl rfl _ _ hc2.out ?_
  refine hK.out _ _ trivial (fun hHeld => ?_)
  clear hK
  try simp only [List.getElem_toArray, List.getElem_cons_zero, List.getElem_cons_succ, Act.put, List.setIfInBounds_toArray, List.set_cons_zero, List.set_cons_succ]
  refine wpAnyH_done (by kernel_rfl) ?_ _
  (try dsimp only [NoPanic])
  have hlv := b5.loadPg hl
  obtain ⟨hst, b7, hg3⟩ := b6.storePg (l := l) (by simp) hl
  have hB7 := hB5.grown hg3 hB5.size (fun k e => by cases e; exact Nat.le_refl _)
  replace b7 := Lib.hid b7
  replace hB7 := Lib.hid hB7
  clear b5 b6 hB5 hg3 hc2
  go_wp2_with (first | (refine wpList_load_var rfl 48 _ rfl _ rfl _ hlv ?_) | (refine wpList_store_var rfl 48 _ _ rfl _ rfl _ rfl hst ?_))
  exact bodyPost_ret (res38 b7.out hl rfl) rfl ⟨rfl, hB7.out⟩
set_option maxRecDepth 100000 in
set_option maxHeartbeats 4000000 in
theorem of_any (l : List UInt8) (w : World) (hl : l.length = 288) : Calls Try.prog 50 #[pgV l] w (NewB l w) := by
  have hz := zero110
  have h0 := (Box.new w 48 (cellsB l)).alloc (.cells (cellsB (rep 288 0)) 110)
  have b2 := Box.new (w.alloc (.cells (cellsB l) 48)) 110 (cellsB (rep 288 0))
  have hB := (Below.refl w.heap.size w).alloc (Nat.le_refl _) (.cells (cellsB l) 48)
  replace hB := hB.alloc hB.size (.cells (cellsB (rep 288 0)) 110)
  rw [World.size_alloc] at b2
  obtain ⟨W0, hW0⟩ : ∃ W0, (w.alloc (.cells (cellsB l) 48)).alloc (.cells (cellsB (rep 288 0)) 110) = W0 := ⟨_, rfl⟩
  rw [hW0] at h0 b2 hB
  unfold pgV
  go_enter Try.func50, Try.ntmps50
  go_upto_region 2 with fail
  clear hz hW0
  have t1 : (l.take 256).length = 256 := by rw [List.length_take]; omega
  have t2 : (l.drop 256).length = 32 := by rw [List.length_drop]; omega
  obtain ⟨hc1, b3, hg1⟩ := (Box.drew b2).copy 0 (l.take 256) (by rw [t1, rep_len]; omega) ⟨w.heap.size, 0, none⟩ 288 288 256 256 (by rw [t1]; rfl) (fun j hj => by
    rw [t1] at hj
    have hadd : (⟨w.heap.size, 0, none⟩ : Addr).add j = ⟨w.heap.size, j, none⟩ := by unfold Addr.add; split <;> simp_all
    rw [hadd, (Box.drew h0).get j _ (cellsB_get l j (by omega)), List.getElem_take]) 3
  have h2 := (Box.drew h0).grown hg1 (by simp)
  have hB3 := (Below.drew hB).grown hg1 (Nat.le_trans hB.size (Nat.le_refl _)) (fun k e => by cases e; omega)
  rw [t1] at hc1
  obtain ⟨W1, hW1⟩ : ∃ W1, W0.drew.setRow (w.heap.size + 1) (cellsB (splice (rep 288 0) 0 (l.take 256))) = W1 := ⟨_, rfl⟩
  rw [hW1] at hc1 b3 h2 hB3
  have hs3 : (splice (rep 288 0) 0 (l.take 256)).length = 288 := by rw [splice_len _ _ _ (by rw [t1, rep_len]; omega), rep_len]
  obtain ⟨hc2, b5, hg2⟩ := b3.copy 256 (l.drop 256) (by rw [t2, hs3]; omega) ⟨w.heap.size, 256, none⟩ 32 32 32 32 (by rw [t2]; rfl) (fun j hj => by
    rw [t2] at hj
    have hadd : (⟨w.heap.size, 256, none⟩ : Addr).add j = ⟨w.heap.size, 256 + j, none⟩ := by unfold Addr.add; split <;> simp_all
    rw [hadd, h2.get (256 + j) _ (cellsB_get l (256 + j) (by omega)), List.getElem_drop]) 3
  have hB5 := hB3.grown hg2 (Nat.le_trans hB3.size (Nat.le_refl _)) (fun k e => by cases e; omega)
  rw [splice_two _ _ (rep_len _ _) hl] at hc2 b5 hB5
  rw [t2] at hc2
  obtain ⟨W2, hW2⟩ : ∃ W2, W1.setRow (w.heap.size + 1) (cellsB l) = W2 := ⟨_, rfl⟩
  rw [hW2] at hc2 b5 hB5
  replace hc2 := Lib.hid hc2
  replace hc1 := Lib.hid hc1
  replace b5 := Lib.hid b5
  replace hB5 := Lib.hid hB5
  clear hW2 hg2 b3 hB3 h2 hW1 hg1 h0 b2 hB
  refine wp_region_noPanic ?_
  refine wp_region_held_drew (S := fun _ => True) (by kernel_rfl) (trivial) (fun hHeld => ?_)
  refine wpAnyH_take (i := 0) (v := ?_) rfl (by kernel_rfl) (by kernel_rfl) (by kernel_rfl) (fun _ _ _ h => h) (Or.inl ⟨rfl, ?_⟩) (by assumption) ?_
  rotate_left
  · intro W hSw
    (try dsimp only at hSw)
    go_simp
    try with_reducible rfl
  try simp only [List.getElem_toArray, List.getElem_cons_zero, List.getElem_cons_succ, Act.put, List.setIfInBounds_toArray, List.set_cons_zero, List.set_cons_succ]
  refine wpAnyH_take (i := 1) (v := ?_) rfl (by kernel_rfl) (by kernel_rfl) (by kernel_rfl) (fun _ _ _ h => h) (Or.inl ⟨rfl, ?_⟩) (by assumption) ?_
  rotate_left
  · intro W hSw
    (try dsimp only at hSw)
    go_simp
    try with_reducible rfl
  try simp only [List.getElem_toArray, List.getElem_cons_zero, List.getElem_cons_succ, Act.put, List.setIfInBounds_toArray, List.set_cons_zero, List.set_cons_succ]
  refine wpAnyH_take (i := 2) (v := ?_) rfl (by kernel_rfl) (by kernel_rfl) (by kernel_rfl) (fun _ _ _ h => h) (Or.inl ⟨rfl, ?_⟩) (by assumption) ?_
  rotate_left
  · intro W hSw
    (try dsimp only at hSw)
    go_simp
    try with_reducible rfl
  try simp only [List.getElem_toArray, List.getElem_cons_zero, List.getElem_cons_succ, Act.put, List.setIfInBounds_toArray, List.set_cons_zero, List.set_cons_succ]
  refine wpAnyH_take (i := 5) (v := ?_) rfl (by kernel_rfl) (by kernel_rfl) (by kernel_rfl) (fun _ _ _ h => h) (Or.inl ⟨rfl, ?_⟩) (by assumption) ?_
  rotate_left
  · intro W hSw
    (try dsimp only at hSw)
    go_simp
    try with_reducible rfl
  try simp only [List.getElem_toArray, List.getElem_cons_zero, List.getElem_cons_succ, Act.put, List.setIfInBounds_toArray, List.set_cons_zero, List.set_cons_succ]
  refine wpAnyH_take (i := 6) (v := ?_) rfl (by kernel_rfl) (by kernel_rfl) (by kernel_rfl) (fun _ _ _ h => h) (Or.inl ⟨rfl, ?_⟩) (by assumption) ?_
  rotate_left
  · intro W hSw
    (try dsimp only at hSw)
    go_simp
    try with_reducible rfl
  try simp only [List.getElem_toArray, List.getElem_cons_zero, List.getElem_cons_succ, Act.put, List.setIfInBounds_toArray, List.set_cons_zero, List.set_cons_succ]
  refine wpAnyH_ready (rs := [3]) (by kernel_rfl) (by simp) (AllReadyH.cons rfl (fun K hK => ?_) AllReadyH.nil)
  refine step_copy_run rfl (.tmp 4) (.tmp 6) 65 65 rfl _ _ rfl rfl _ _ hc1.out ?_
  refine hK.out _ _ trivial (fun hHeld => ?_)
  clear hK
  try simp only [List.getElem_toArray, List.getElem_cons_zero, List.getElem_cons_succ, Act.put, List.setIfInBounds_toArray, List.set_cons_zero, List.set_cons_succ]
  refine wpAnyH_take (i := 4) (v := ?_) rfl (by kernel_rfl) (by kernel_rfl) (by kernel_rfl) (fun _ _ _ h => h) (Or.inl ⟨rfl, ?_⟩) (by assumption) ?_
  rotate_left
  · intro W hSw
    (try dsimp only at hSw)
    go_simp
    try with_reducible rfl
  try simp only [List.getElem_toArray, List.getElem_cons_zero, List.getElem_cons_succ, Act.put, List.setIfInBounds_toArray, List.set_cons_zero, List.set_cons_succ]
  refine wpAnyH_ready (rs := [7]) (by kernel_rfl) (by simp) (AllReadyH.cons rfl (fun K hK => ?_) AllReadyH.nil)
  refine step_copy_run rfl (.tmp 8) (.tmp 10) 65 65 rfl _ _ rfl rfl _ _ hc2.out ?_
  refine hK.out _ _ trivial (fun hHeld => ?_)
  clear hK
  try simp only [List.getElem_toArray, List.getElem_cons_zero, List.getElem_cons_succ, Act.put, List.setIfInBounds_toArray, List.set_cons_zero, List.set_cons_succ]
  refine wpAnyH_done (by kernel_rfl) ?_ _
  (try dsimp only [NoPanic])
  go_wp2_with fail
  go_ret
  exact ⟨_, rfl, Nat.le_succ _, b5.out, hB5.out⟩
end Go.Proofs.Ytlgjlhgdpiipbaa
