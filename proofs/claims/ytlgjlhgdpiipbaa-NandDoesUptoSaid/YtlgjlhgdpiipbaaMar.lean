import Derived.Test.YtlgjlhgdpiipbaaMam
import Derived.Test.YtlgjlhgdpiipbaaMao
/- A page's bytes; does a page cover another one; is what is known of a block otherwise. -/
namespace Go.Proofs.Ytlgjlhgdpiipbaa
open Go.RowKit
/-- Bytes that a call lays anew. -/
def BytesRes (l : List UInt8) (w : World) (e : Ending) (w' : World) : Prop := ∃ g cap, e = .returned (.slice (some ⟨g, 0, none⟩) 288 cap) ∧ RdB w' (.slice (some ⟨g, 0, none⟩) 288 cap) l ∧ Below w.heap.size w w'
theorem own_empty (W : World) (B : Nat) (hB : B ≤ W.heap.size) : (W.alloc (.cells #[] 5)).ownsRow B 5 1 (.slice (some ⟨W.heap.size, 0, none⟩) 0 0) 0 [] :=
  ⟨by simp, .inr ⟨W.heap.size, 0, #[], rfl, hB, heap_alloc_new W _, by simp, by simp, by simp, by simp⟩⟩
set_option maxRecDepth 100000 in
set_option maxHeartbeats 4000000 in
theorem bytes_any (l : List UInt8) (w : World) (hl : l.length = 288) : Calls Try.prog 41 #[.agg (cellsB l)] w (BytesRes l w) := by
  obtain ⟨i0, hi0, hz0, hz1, hz2⟩ := info_parts infoByte
  have h0 := Box.new w 48 (cellsB l)
  have hB := (Below.refl w.heap.size w).alloc (Nat.le_refl _) (.cells (cellsB l) 48)
  obtain ⟨W0, hW0⟩ : ∃ W0, w.alloc (.cells (cellsB l) 48) = W0 := ⟨_, rfl⟩
  rw [hW0] at h0 hB
  have hsz : w.heap.size ≤ W0.drew.heap.size := hB.size
  go_enter Try.func41, Try.ntmps41
  go_upto_region 1 with fail
  clear hW0
  have t1 : ((l.take 256).map byteV).length = 256 := by rw [List.length_map, List.length_take]; omega
  have t2 : ((l.drop 256).map byteV).length = 32 := by rw [List.length_map, List.length_drop]; omega
  have hone : ∀ u ∈ (l.take 256).map byteV, u.oneCell' = true := fun u hu => by obtain ⟨y, _, rfl⟩ := List.mem_map.1 hu; rfl
  have hone2 : ∀ u ∈ (l.drop 256).map byteV, u.oneCell' = true := fun u hu => by obtain ⟨y, _, rfl⟩ := List.mem_map.1 hu; rfl
  have hadd : ∀ o j : Nat, (⟨w.heap.size, o, none⟩ : Addr).add j = ⟨w.heap.size, o + j, none⟩ := fun o j => by unfold Addr.add; split <;> simp_all
  have hc1 : ∀ (W : World), Box W w.heap.size 48 (cellsB l) → ∀ j u, ((l.take 256).map byteV)[j]? = some u → W.cell? ((⟨w.heap.size, 0, none⟩ : Addr).add j) = some u := fun W hW j u hu => by
    rw [hadd, Nat.zero_add]
    rw [List.getElem?_map] at hu
    obtain ⟨y, hy, rfl⟩ := Option.map_eq_some_iff.1 hu
    obtain ⟨hx, rfl⟩ := List.getElem?_eq_some_iff.1 hy
    have hx' : j < 256 := by rw [List.length_take] at hx; omega
    rw [hW.get j _ (cellsB_get l j (by omega)), List.getElem_take]
  have hc2 : ∀ (W : World), Box W w.heap.size 48 (cellsB l) → ∀ j u, ((l.drop 256).map byteV)[j]? = some u → W.cell? ((⟨w.heap.size, 256, none⟩ : Addr).add j) = some u := fun W hW j u hu => by
    rw [hadd]
    rw [List.getElem?_map] at hu
    obtain ⟨y, hy, rfl⟩ := Option.map_eq_some_iff.1 hu
    obtain ⟨hx, rfl⟩ := List.getElem?_eq_some_iff.1 hy
    have hx' : j < 32 := by rw [List.length_drop] at hx; omega
    rw [hW.get (256 + j) _ (cellsB_get l (256 + j) (by omega)), List.getElem_drop]
  have o1 := own_empty W0.drew w.heap.size hsz
  have h1 : Box (W0.drew.alloc (.cells #[] 5)) w.heap.size 48 (cellsB l) := (Box.drew h0).alloc _
  have hB1 := hB.drew.alloc hsz (.cells #[] 5)
  obtain ⟨v2, w2, hr2, o2, hg2, _⟩ := run_append_own_at (P := Try.prog) (W0.drew.alloc (.cells #[] 5)) w.heap.size 65 65 5 i0 (.int .u8 0) 1 1 Try.underlying65 hi0 hz0 hz1 hz2 rfl (by decide)
    (.slice (some ⟨W0.drew.heap.size, 0, none⟩) 0 0) 0 [] o1 ⟨w.heap.size, 0, none⟩ 256 256 ((l.take 256).map byteV) (by rw [t1]) (hc1 _ h1) hone (by unfold maxLen; omega) (by omega) (by rw [World.size_alloc]; omega)
  have h2 : Box w2 w.heap.size 48 (cellsB l) := h1.grown hg2 (by simp [Value.ownBlock]; have := h0.lt; show ¬ w.heap.size = W0.heap.size; omega)
  have hB2 := hB1.grown hg2 (by rw [World.size_alloc]; omega) (fun k e => (o1.lt k e).1)
  obtain ⟨v3, w3, hr3, o3, hg3, _⟩ := run_append_own_at (P := Try.prog) w2 w.heap.size 65 65 5 i0 (.int .u8 0) 1 1 Try.underlying65 hi0 hz0 hz1 hz2 rfl (by decide)
    v2 _ _ o2 ⟨w.heap.size, 256, none⟩ 32 32 ((l.drop 256).map byteV) (by rw [t2]) (hc2 _ h2) hone2 (by unfold maxLen; omega) (by omega) hB2.size
  have hB3 := hB2.grown hg3 hB2.size (fun k e => (o2.lt k e).1)
  have o4 : w3.ownsRow w.heap.size 5 1 v3 l.length (l.map byteV) := by
    have e1 : 0 + 256 + 32 = l.length := by omega
    have e2 : [] ++ (l.take 256).map byteV ++ (l.drop 256).map byteV = l.map byteV := by rw [List.nil_append, ← List.map_append, List.take_append_drop]
    rw [← e1, ← e2]; exact o3
  obtain ⟨g, cap, hv3, _, ho⟩ := OwnB.of_own o4 (by intro e; rw [e] at hl; simp at hl)
  have hrd := ho.rd
  rw [hl] at hv3 hrd
  subst hv3
  have hfin : BytesRes l w (.returned (.slice (some ⟨g, 0, none⟩) 288 cap)) w3 := ⟨g, cap, rfl, hrd, hB3⟩
  replace hr2 := Lib.hid hr2
  replace hr3 := Lib.hid hr3
  replace hfin := Lib.hid hfin
  clear o4 o3 o2 o1 hrd ho hB3 hB2 hB1 hg2 hg3 h1 h2 hc1 hc2 hone hone2 t1 t2 h0 hB hadd hsz
  refine wp_region_noPanic ?_
  refine wp_region_held_drew (S := fun _ => True) (by kernel_rfl) (trivial) (fun hHeld => ?_)
  refine wpAnyH_take (i := 1) (v := ?_) rfl (by kernel_rfl) (by kernel_rfl) (by kernel_rfl) (fun _ _ _ h => h) (Or.inl ⟨rfl, ?_⟩) (by assumption) ?_
  rotate_left
  · intro W hSw
    (try dsimp only at hSw)
    go_simp
    try with_reducible rfl
  try simp only [List.getElem_toArray, List.getElem_cons_zero, List.getElem_cons_succ, Act.put, List.setIfInBounds_toArray, List.set_cons_zero, List.set_cons_succ]
  refine wpAnyH_take (i := 4) (v := ?_) rfl (by kernel_rfl) (by kernel_rfl) (by kernel_rfl) (fun _ _ _ h => h) (Or.inl ⟨rfl, ?_⟩) (by assumption) ?_
  rotate_left
  · intro W hSw
    (try dsimp only at hSw)
    go_simp
    try with_reducible rfl
  try simp only [List.getElem_toArray, List.getElem_cons_zero, List.getElem_cons_succ, Act.put, List.setIfInBounds_toArray, List.set_cons_zero, List.set_cons_succ]
  refine wpAnyH_take (i := 2) (v := ?_) rfl (by kernel_rfl) (by kernel_rfl) (by kernel_rfl) (fun _ _ _ h => h) (Or.inl ⟨rfl, ?_⟩) (by assumption) ?_
  rotate_left
  · intro W hSw
    (try dsimp only at hSw)
    go_simp
    try with_reducible rfl
  try simp only [List.getElem_toArray, List.getElem_cons_zero, List.getElem_cons_succ, Act.put, List.setIfInBounds_toArray, List.set_cons_zero, List.set_cons_succ]
  refine wpAnyH_take (i := 5) (v := ?_) rfl (by kernel_rfl) (by kernel_rfl) (by kernel_rfl) (fun _ _ _ h => h) (Or.inl ⟨rfl, ?_⟩) (by assumption) ?_
  rotate_left
  · intro W hSw
    (try dsimp only at hSw)
    go_simp
    try with_reducible rfl
  try simp only [List.getElem_toArray, List.getElem_cons_zero, List.getElem_cons_succ, Act.put, List.setIfInBounds_toArray, List.set_cons_zero, List.set_cons_succ]
  refine wpAnyH_ready (rs := [0]) (by kernel_rfl) (by simp) (AllReadyH.cons rfl (fun K hK => ?_) AllReadyH.nil)
  go_simp
  refine hK.out _ _ (trivial) (fun hHeld => ?_)
  clear hK
  try simp only [List.getElem_toArray, List.getElem_cons_zero, List.getElem_cons_succ, Act.put, List.setIfInBounds_toArray, List.set_cons_zero, List.set_cons_succ]
  refine wpAnyH_ready (rs := [3]) (by kernel_rfl) (by simp) (AllReadyH.cons rfl (fun K hK => ?_) AllReadyH.nil)
  refine step_append_run rfl (.tmp 3) (.tmp 5) 65 65 rfl _ _ rfl rfl _ _ hr2.out ?_
  refine hK.out _ _ (trivial) (fun hHeld => ?_)
  clear hK
  try simp only [List.getElem_toArray, List.getElem_cons_zero, List.getElem_cons_succ, Act.put, List.setIfInBounds_toArray, List.set_cons_zero, List.set_cons_succ]
  refine wpAnyH_ready (rs := [6]) (by kernel_rfl) (by simp) (AllReadyH.cons rfl (fun K hK => ?_) AllReadyH.nil)
  refine step_append_run rfl (.tmp 6) (.tmp 8) 65 65 rfl _ _ rfl rfl _ _ hr3.out ?_
  refine hK.out _ _ (trivial) (fun hHeld => ?_)
  clear hK
  try simp only [List.getElem_toArray, List.getElem_cons_zero, List.getElem_cons_succ, Act.put, List.setIfInBounds_toArray, List.set_cons_zero, List.set_cons_succ]
  refine wpAnyH_take (i := 7) (v := ?_) rfl (by kernel_rfl) (by kernel_rfl) (by kernel_rfl) (fun _ _ _ h => h) (Or.inl ⟨rfl, ?_⟩) (by assumption) ?_
  rotate_left
  · intro W hSw
    (try dsimp only at hSw)
    go_simp
    try with_reducible rfl
  try simp only [List.getElem_toArray, List.getElem_cons_zero, List.getElem_cons_succ, Act.put, List.setIfInBounds_toArray, List.set_cons_zero, List.set_cons_succ]
  refine wpAnyH_done (by kernel_rfl) ?_ _
  (try dsimp only [NoPanic])
  go_wp2_with fail
  go_ret
  exact hfin.out
set_option maxRecDepth 100000 in
set_option maxHeartbeats 4000000 in
theorem covers40_any (a b : List UInt8) (va vb : Value) (w : World) (ha : RdB w va a) (hb : RdB w vb b) (hl : a.length = 288) (hl2 : b.length = 288) (hcov : ∀ i (h : i < a.length) (h' : i < b.length), a[i] ||| b[i] = a[i]) :
    Calls Try.prog 40 #[va, vb] w (fun e w' => e = .returned (.bool true) ∧ Below w.heap.size w w') := by
  obtain ⟨ba, oa, ca, rfl, _, hba, hca⟩ := ha.at (by intro e; rw [e] at hl; simp at hl)
  obtain ⟨bb, ob, cb, rfl, _, hbb, hcb⟩ := hb.at (by intro e; rw [e] at hl2; simp at hl2)
  rw [hl, hl2]
  have hca' := Lib.hid hca
  have hcb' := Lib.hid hcb
  clear ha hb hca hcb
  replace hl := Lib.hid hl
  replace hl2 := Lib.hid hl2
  replace hcov := Lib.hid hcov
  go_enter Try.func40, Try.ntmps40
  go_wp2_with fail
  go_loopw [5] (fun i wr => ∃ k : Nat, k ≤ 288 ∧ i = .int .i64 k ∧ Below w.heap.size w wr) (fun i _ => 288 - (intOf i).toNat)
  case atStart => exact ⟨0, by omega, rfl, Below.refl _ _⟩
  case round =>
    obtain ⟨k, hk, rfl, hbr⟩ := hrel
    by_cases hlt : k < 288
    · have h1 : k < a.length := by rw [hl.out]; exact hlt
      have h2 : k < b.length := by rw [hl2.out]; exact hlt
      have hI0 : (0 : Int) ≤ (k : Int) := by omega
      have hI1 : (k : Int) < 288 := by omega
      have q := hcov.out k h1 h2
      have hor := or_u8 a[k] b[k]
      rw [q] at hor
      have hS := Lib.hid (fun W (hb : Below w.heap.size w W) => show (fun W => W.cell? ⟨ba, oa + k, none⟩ = some (.int .u8 (a[k].toNat : Nat)) ∧ W.cell? ⟨bb, ob + k, none⟩ = some (.int .u8 (b[k].toNat : Nat))) W from ⟨(hb.cell (p := ⟨ba, oa + k, none⟩) hba).trans (hca'.out k h1), (hb.cell (p := ⟨bb, ob + k, none⟩) hbb).trans (hcb'.out k h2)⟩)
      obtain ⟨x, hx⟩ : ∃ x, a[k] = x := ⟨_, rfl⟩
      obtain ⟨y, hy⟩ : ∃ y, b[k] = y := ⟨_, rfl⟩
      rw [hx] at hS hor
      rw [hy] at hS hor
      clear q hx hy h1 h2
      go_upto_region 6 with fail
      refine wp_region_noPanic ?_
      refine wp_region_held_drew (S := fun W => W.cell? ⟨ba, oa + k, none⟩ = some (.int .u8 (x.toNat : Nat)) ∧ W.cell? ⟨bb, ob + k, none⟩ = some (.int .u8 (y.toNat : Nat))) (by kernel_rfl) (hS.out _ (hbr.trans ((Below.refl _ _).drew.mono hbr.size))) (fun hHeld => ?_)
      refine wpAnyH_take (i := 0) (v := ?_) rfl (by kernel_rfl) (by kernel_rfl) (by kernel_rfl) (fun _ _ _ h => h) (Or.inl ⟨rfl, ?_⟩) (by assumption) ?_
      rotate_left
      · intro W hSw
        (try dsimp only at hSw)
        go_simp
        try with_reducible rfl
      try simp only [List.getElem_toArray, List.getElem_cons_zero, List.getElem_cons_succ, Act.put, List.setIfInBounds_toArray, List.set_cons_zero, List.set_cons_succ]
      refine wpAnyH_take (i := 1) (v := ?_) rfl (by kernel_rfl) (by kernel_rfl) (by kernel_rfl) (fun _ _ _ h => h) (Or.inl ⟨rfl, ?_⟩) (by assumption) ?_
      rotate_left
      · intro W hSw
        (try dsimp only at hSw)
        go_simp
        try with_reducible rfl
      try simp only [List.getElem_toArray, List.getElem_cons_zero, List.getElem_cons_succ, Act.put, List.setIfInBounds_toArray, List.set_cons_zero, List.set_cons_succ]
      refine wpAnyH_take (i := 2) (v := ?_) rfl (by kernel_rfl) (by kernel_rfl) (by kernel_rfl) (fun _ _ _ h => h) (Or.inl ⟨rfl, ?_⟩) (by assumption) ?_
      rotate_left
      · intro W hSw
        (try dsimp only at hSw)
        go_simp
        try with_reducible rfl
      try simp only [List.getElem_toArray, List.getElem_cons_zero, List.getElem_cons_succ, Act.put, List.setIfInBounds_toArray, List.set_cons_zero, List.set_cons_succ]
      refine wpAnyH_take (i := 3) (v := ?_) rfl (by kernel_rfl) (by kernel_rfl) (by kernel_rfl) (fun _ _ _ h => h) (Or.inl ⟨rfl, ?_⟩) (by assumption) ?_
      rotate_left
      · intro W hSw
        (try dsimp only at hSw)
        go_simp
        try with_reducible rfl
      try simp only [List.getElem_toArray, List.getElem_cons_zero, List.getElem_cons_succ, Act.put, List.setIfInBounds_toArray, List.set_cons_zero, List.set_cons_succ]
      refine wpAnyH_take (i := 4) (v := ?_) rfl (by kernel_rfl) (by kernel_rfl) (by kernel_rfl) (fun _ _ _ h => h) (Or.inl ⟨rfl, ?_⟩) (by assumption) ?_
      rotate_left
      · intro W hSw
        (try dsimp only at hSw)
        go_simp
        try with_reducible rfl
      try simp only [List.getElem_toArray, List.getElem_cons_zero, List.getElem_cons_succ, Act.put, List.setIfInBounds_toArray, List.set_cons_zero, List.set_cons_succ]
      refine wpAnyH_take (i := 5) (v := ?_) rfl (by kernel_rfl) (by kernel_rfl) (by kernel_rfl) (fun _ _ _ h => h) (Or.inl ⟨rfl, ?_⟩) (by assumption) ?_
      rotate_left
      · intro W hSw
        (try dsimp only at hSw)
        go_simp
        try with_reducible rfl
      try simp only [List.getElem_toArray, List.getElem_cons_zero, List.getElem_cons_succ, Act.put, List.setIfInBounds_toArray, List.set_cons_zero, List.set_cons_succ]
      refine wpAnyH_take (i := 6) (v := ?_) rfl (by kernel_rfl) (by kernel_rfl) (by kernel_rfl) (fun _ _ _ h => h) (Or.inl ⟨rfl, ?_⟩) (by assumption) ?_
      rotate_left
      · intro W hSw
        (try dsimp only at hSw)
        go_simp
        try with_reducible rfl
      try simp only [List.getElem_toArray, List.getElem_cons_zero, List.getElem_cons_succ, Act.put, List.setIfInBounds_toArray, List.set_cons_zero, List.set_cons_succ]
      refine wpAnyH_take (i := 7) (v := ?_) rfl (by kernel_rfl) (by kernel_rfl) (by kernel_rfl) (fun _ _ _ h => h) (Or.inl ⟨rfl, ?_⟩) (by assumption) ?_
      rotate_left
      · intro W hSw
        (try dsimp only at hSw)
        go_simp
        try with_reducible rfl
      try simp only [List.getElem_toArray, List.getElem_cons_zero, List.getElem_cons_succ, Act.put, List.setIfInBounds_toArray, List.set_cons_zero, List.set_cons_succ]
      refine wpAnyH_take (i := 8) (v := ?_) rfl (by kernel_rfl) (by kernel_rfl) (by kernel_rfl) (fun _ _ _ h => h) (Or.inl ⟨rfl, ?_⟩) (by assumption) ?_
      rotate_left
      · intro W hSw
        (try dsimp only at hSw)
        go_simp
        try with_reducible rfl
      try simp only [List.getElem_toArray, List.getElem_cons_zero, List.getElem_cons_succ, Act.put, List.setIfInBounds_toArray, List.set_cons_zero, List.set_cons_succ]
      refine wpAnyH_take (i := 9) (v := ?_) rfl (by kernel_rfl) (by kernel_rfl) (by kernel_rfl) (fun _ _ _ h => h) (Or.inl ⟨rfl, ?_⟩) (by assumption) ?_
      rotate_left
      · intro W hSw
        (try dsimp only at hSw)
        go_simp
        try with_reducible rfl
      try simp only [List.getElem_toArray, List.getElem_cons_zero, List.getElem_cons_succ, Act.put, List.setIfInBounds_toArray, List.set_cons_zero, List.set_cons_succ]
      refine wpAnyH_take (i := 10) (v := ?_) rfl (by kernel_rfl) (by kernel_rfl) (by kernel_rfl) (fun _ _ _ h => h) (Or.inl ⟨rfl, ?_⟩) (by assumption) ?_
      rotate_left
      · intro W hSw
        (try dsimp only at hSw)
        go_simp
        try with_reducible rfl
      try simp only [List.getElem_toArray, List.getElem_cons_zero, List.getElem_cons_succ, Act.put, List.setIfInBounds_toArray, List.set_cons_zero, List.set_cons_succ]
      refine wpAnyH_take (i := 11) (v := ?_) rfl (by kernel_rfl) (by kernel_rfl) (by kernel_rfl) (fun _ _ _ h => h) (Or.inl ⟨rfl, ?_⟩) (by assumption) ?_
      rotate_left
      · intro W hSw
        (try dsimp only at hSw)
        go_simp
        try with_reducible rfl
      try simp only [List.getElem_toArray, List.getElem_cons_zero, List.getElem_cons_succ, Act.put, List.setIfInBounds_toArray, List.set_cons_zero, List.set_cons_succ]
      refine wpAnyH_take (i := 12) (v := ?_) rfl (by kernel_rfl) (by kernel_rfl) (by kernel_rfl) (fun _ _ _ h => h) (Or.inl ⟨rfl, ?_⟩) (by assumption) ?_
      rotate_left
      · intro W hSw
        (try dsimp only at hSw)
        go_simp
        try with_reducible rfl
      try simp only [List.getElem_toArray, List.getElem_cons_zero, List.getElem_cons_succ, Act.put, List.setIfInBounds_toArray, List.set_cons_zero, List.set_cons_succ]
      refine wpAnyH_take (i := 13) (v := ?_) rfl (by kernel_rfl) (by kernel_rfl) (by kernel_rfl) (fun _ _ _ h => h) (Or.inl ⟨rfl, ?_⟩) (by assumption) ?_
      rotate_left
      · intro W hSw
        (try dsimp only at hSw)
        go_simp
        try with_reducible rfl
      try simp only [List.getElem_toArray, List.getElem_cons_zero, List.getElem_cons_succ, Act.put, List.setIfInBounds_toArray, List.set_cons_zero, List.set_cons_succ]
      refine wpAnyH_done (by kernel_rfl) ?_ _
      (try dsimp only [NoPanic])
      go_wp2_with fail
      go_roundw
      case rel => exact ⟨k + 1, by omega, by go_num, hbr.trans ((Below.refl _ _).drew.mono hbr.size)⟩
      case measure => simp [intOf]; omega
    · go_wp2_with fail
      go_ret
      exact ⟨rfl, hbr⟩
set_option maxRecDepth 100000 in
set_option maxHeartbeats 4000000 in
theorem covers_any (a b : List UInt8) (w : World) (hl : a.length = 288) (hl2 : b.length = 288) (hcov : ∀ i (h : i < a.length) (h' : i < b.length), a[i] ||| b[i] = a[i]) :
    Calls Try.prog 23 #[.agg (cellsB a), .agg (cellsB b)] w (fun e w' => e = .returned (.bool true) ∧ Below w.heap.size w w') := by
  have h1 := (Box.new w 48 (cellsB a)).alloc (.cells (cellsB b) 48)
  have h2 := Box.new (w.alloc (.cells (cellsB a) 48)) 48 (cellsB b)
  have hB := (Below.refl w.heap.size w).alloc (Nat.le_refl _) (.cells (cellsB a) 48)
  replace hB := hB.alloc hB.size (.cells (cellsB b) 48)
  rw [World.size_alloc] at h2
  obtain ⟨W0, hW0⟩ : ∃ W0, (w.alloc (.cells (cellsB a) 48)).alloc (.cells (cellsB b) 48) = W0 := ⟨_, rfl⟩
  rw [hW0] at h1 h2 hB
  have hS := Lib.hid (fun W (hb : Below W0.heap.size W0 W) => show (fun W => (loadVar 48 ⟨w.heap.size, 0, none⟩).run Try.prog W = .ok (.agg (cellsB a)) W ∧ (loadVar 48 ⟨w.heap.size + 1, 0, none⟩).run Try.prog W = .ok (.agg (cellsB b)) W) W from ⟨(h1.below hb).loadPg hl, (h2.below hb).loadPg hl2⟩)
  have hby := Lib.hid (fun W => bytes_any a W hl)
  have hby2 := Lib.hid (fun W => bytes_any b W hl2)
  have hco := Lib.hid (fun va vb W (ha : RdB W va a) (hb : RdB W vb b) => covers40_any a b va vb W ha hb hl hl2 hcov)
  clear h1 h2 hcov
  replace hB := Lib.hid hB
  go_enter Try.func23, Try.ntmps23
  go_upto_region 1 with fail
  clear hW0
  have hb0 := (Below.refl W0.heap.size W0).drew
  refine wp_region_noPanic ?_
  refine wp_region_held_drew (S := fun W => (loadVar 48 ⟨w.heap.size, 0, none⟩).run Try.prog W = .ok (.agg (cellsB a)) W ∧ (loadVar 48 ⟨w.heap.size + 1, 0, none⟩).run Try.prog W = .ok (.agg (cellsB b)) W) (by kernel_rfl) (hS.out _ hb0) (fun hHeld => ?_)
  refine wpAnyH_take (i := 0) (v := .agg (cellsB a)) rfl (by kernel_rfl) (by kernel_rfl) (by kernel_rfl) (fun _ _ _ h => h) (Or.inl ⟨rfl, ?_⟩) (by assumption) ?_
  · intro W hSw
    exact exec_load 48 (.tmp 2) rfl _ rfl _ hSw.1
  try simp only [List.getElem_toArray, List.getElem_cons_zero, List.getElem_cons_succ, Act.put, List.setIfInBounds_toArray, List.set_cons_zero, List.set_cons_succ]
  refine wpAnyH_take (i := 2) (v := .agg (cellsB b)) rfl (by kernel_rfl) (by kernel_rfl) (by kernel_rfl) (fun _ _ _ h => h) (Or.inl ⟨rfl, ?_⟩) (by assumption) ?_
  · intro W hSw
    exact exec_load 48 (.tmp 3) rfl _ rfl _ hSw.2
  try simp only [List.getElem_toArray, List.getElem_cons_zero, List.getElem_cons_succ, Act.put, List.setIfInBounds_toArray, List.set_cons_zero, List.set_cons_succ]
  refine wpAnyH_ready (rs := [1]) (by kernel_rfl) (by simp) (AllReadyH.cons rfl (fun K hK => ?_) AllReadyH.nil)
  go_simp
  refine (hby.out _).mono ?_
  rintro e w2 ⟨g2, c2, rfl, r2, hb2⟩
  have hb3 := hb0.trans (hb2.mono hb0.size)
  refine hK.out _ _ (hS.out _ hb3) (fun hHeld => ?_)
  clear hK
  try simp only [List.getElem_toArray, List.getElem_cons_zero, List.getElem_cons_succ, Act.put, List.setIfInBounds_toArray, List.set_cons_zero, List.set_cons_succ]
  refine wpAnyH_ready (rs := [3]) (by kernel_rfl) (by simp) (AllReadyH.cons rfl (fun K hK => ?_) AllReadyH.nil)
  go_simp
  refine (hby2.out _).mono ?_
  rintro e w3 ⟨g3, c3, rfl, r3, hb4⟩
  have hb5 := hb3.trans (hb4.mono hb3.size)
  have r4 := r2.below hb4
  refine hK.out _ _ (hS.out _ hb5) (fun hHeld => ?_)
  clear hK
  try simp only [List.getElem_toArray, List.getElem_cons_zero, List.getElem_cons_succ, Act.put, List.setIfInBounds_toArray, List.set_cons_zero, List.set_cons_succ]
  refine wpAnyH_ready (rs := [4]) (by kernel_rfl) (by simp) (AllReadyH.cons rfl (fun K hK => ?_) AllReadyH.nil)
  go_simp
  refine (hco.out _ _ _ r4 r3).mono ?_
  rintro e w4 ⟨rfl, hb6⟩
  have hb7 := hb5.trans (hb6.mono hb5.size)
  refine hK.out _ _ (hS.out _ hb7) (fun hHeld => ?_)
  clear hK
  try simp only [List.getElem_toArray, List.getElem_cons_zero, List.getElem_cons_succ, Act.put, List.setIfInBounds_toArray, List.set_cons_zero, List.set_cons_succ]
  refine wpAnyH_take (i := 5) (v := ?_) rfl (by kernel_rfl) (by kernel_rfl) (by kernel_rfl) (fun _ _ _ h => h) (Or.inl ⟨rfl, ?_⟩) (by assumption) ?_
  rotate_left
  · intro W hSw
    (try dsimp only at hSw)
    go_simp
    try with_reducible rfl
  try simp only [List.getElem_toArray, List.getElem_cons_zero, List.getElem_cons_succ, Act.put, List.setIfInBounds_toArray, List.set_cons_zero, List.set_cons_succ]
  refine wpAnyH_done (by kernel_rfl) ?_ _
  (try dsimp only [NoPanic])
  go_wp2_with fail
  go_ret
  exact ⟨rfl, hB.out.trans (hb7.mono hB.out.size)⟩
set_option maxRecDepth 100000 in
set_option maxHeartbeats 4000000 in
theorem changed_no {w W : World} {X : Nat → Prop} {c : Nat} {st : Chip} (hH : Has w W X c st) (n : Int) (uw un : Int) (ub : Bool) (hk : (st.lookAt n).1 = ⟨uw, un, ub⟩)  : Calls Try.prog 19 #[.pointer (some ⟨c, 0, none⟩), .int .i64 n, .agg #[.int .i64 uw, .int .i64 un, .bool ub]] W (fun e w' => e = .returned (.bool false) ∧ Below W.heap.size W w') := by
  have hB := (Below.refl W.heap.size W).alloc (Nat.le_refl _) (.cells #[.int .i64 uw, .int .i64 un, .bool ub] 42)
  have bx := Box.new W 42 #[.int .i64 uw, .int .i64 un, .bool ub]
  have hl := has_look (hH.below hB) n
  rw [hk] at hl
  obtain ⟨le, hle⟩ : ∃ l, (st.lookAt n).2 = l := ⟨_, rfl⟩
  rw [hle] at hl
  unfold lookV lookA at hl
  dsimp only at hl
  clear hle hk hH
  obtain ⟨W0, hW0⟩ : ∃ W0, W.alloc (.cells #[.int .i64 uw, .int .i64 un, .bool ub] 42) = W0 := ⟨_, rfl⟩
  rw [hW0] at hB bx hl
  replace hl := Lib.hid hl
  replace hB := Lib.hid hB
  replace bx := Lib.hid bx
  go_enter Try.func19, Try.ntmps19
  go_wp2_with fail
  clear hW0
  refine hl.out.mono ?_
  rintro e w3 ⟨rfl, hb3⟩
  have hal : Below w3.heap.size w3 (w3.alloc (.cells #[.int .i64 uw, .int .i64 un, .bool ub] 42)) := (Below.refl _ _).alloc (Nat.le_refl _) _
  have bn := Box.new w3 42 #[.int .i64 uw, .int .i64 un, .bool ub]
  have b3 := (bx.out.below hb3).below hal
  have hfin := Lib.hid ((hB.out.trans (hb3.mono hB.out.size)).trans (hal.mono (Nat.le_trans hB.out.size hb3.size)))
  have x0 := bn.get 0 _ rfl
  have x1 := bn.get 1 _ rfl
  have x2 := bn.get 2 _ rfl
  have y0 := b3.get 0 _ rfl
  have y1 := b3.get 1 _ rfl
  have y2 := b3.get 2 _ rfl
  clear bn b3 hal hb3 hl bx hB
  go_wp2_with fail
  go_ret
  exact ⟨rfl, hfin.out⟩
set_option maxRecDepth 100000 in
set_option maxHeartbeats 4000000 in
theorem changed_yes {w W : World} {X : Nat → Prop} {c : Nat} {st : Chip} (hH : Has w W X c st) (n : Int) (ln uw un : Int) (ub : Bool) (hk : (st.lookAt n).1 = ⟨uw, un, ub⟩) (h2 : (un == ln) = false) : Calls Try.prog 19 #[.pointer (some ⟨c, 0, none⟩), .int .i64 n, .agg #[.int .i64 uw, .int .i64 ln, .bool ub]] W (fun e w' => e = .returned (.bool true) ∧ Below W.heap.size W w') := by
  have hB := (Below.refl W.heap.size W).alloc (Nat.le_refl _) (.cells #[.int .i64 uw, .int .i64 ln, .bool ub] 42)
  have bx := Box.new W 42 #[.int .i64 uw, .int .i64 ln, .bool ub]
  have hl := has_look (hH.below hB) n
  rw [hk] at hl
  obtain ⟨le, hle⟩ : ∃ l, (st.lookAt n).2 = l := ⟨_, rfl⟩
  rw [hle] at hl
  unfold lookV lookA at hl
  dsimp only at hl
  clear hle hk hH
  obtain ⟨W0, hW0⟩ : ∃ W0, W.alloc (.cells #[.int .i64 uw, .int .i64 ln, .bool ub] 42) = W0 := ⟨_, rfl⟩
  rw [hW0] at hB bx hl
  replace hl := Lib.hid hl
  replace hB := Lib.hid hB
  replace bx := Lib.hid bx
  go_enter Try.func19, Try.ntmps19
  go_wp2_with fail
  clear hW0
  refine hl.out.mono ?_
  rintro e w3 ⟨rfl, hb3⟩
  have hal : Below w3.heap.size w3 (w3.alloc (.cells #[.int .i64 uw, .int .i64 un, .bool ub] 42)) := (Below.refl _ _).alloc (Nat.le_refl _) _
  have bn := Box.new w3 42 #[.int .i64 uw, .int .i64 un, .bool ub]
  have b3 := (bx.out.below hb3).below hal
  have hfin := Lib.hid ((hB.out.trans (hb3.mono hB.out.size)).trans (hal.mono (Nat.le_trans hB.out.size hb3.size)))
  have x0 := bn.get 0 _ rfl
  have x1 := bn.get 1 _ rfl
  have x2 := bn.get 2 _ rfl
  have y0 := b3.get 0 _ rfl
  have y1 := b3.get 1 _ rfl
  have y2 := b3.get 2 _ rfl
  clear bn b3 hal hb3 hl bx hB
  go_wp2_with fail
  go_ret
  exact ⟨rfl, hfin.out⟩
end Go.Proofs.Ytlgjlhgdpiipbaa
