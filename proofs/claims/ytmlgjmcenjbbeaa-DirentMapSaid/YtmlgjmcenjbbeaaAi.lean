/- The reference's Remove and Turn. -/
import Derived.Test.YtmlgjmcenjbbeaaAh
namespace Go.Proofs.Ytmlgjmcenjbbeaa
open Go.RowKit
namespace Nm
theorem rem_dir {b n : List UInt8} (h : recs b = none) : rem b n = (none, 160) := by unfold rem; rw [h]
theorem rem_none {b n : List UInt8} {l : List Rec} (h : recs b = some l) (h2 : l.any (isNamed n) = false) : rem b n = (none, 4) := by
  unfold rem; rw [h]; simp only; rw [if_neg (by rw [h2]; simp)]
theorem rem_some {b n : List UInt8} {l : List Rec} {k : Nat} (h : recs b = some l) (hk : k < l.length) (h4 : isNamed n l[k] = true) (h5 : (l.take k).any (isNamed n) = false) : rem b n = (some (remRec b l k), 0) := by
  unfold rem; rw [h]; simp only
  rw [if_pos (List.any_eq_true.2 ⟨l[k], List.getElem_mem hk, h4⟩)]
  have : l.findIdx (isNamed n) = k := by
    rw [List.findIdx_eq hk]
    exact ⟨h4, fun j hj => by
      have := List.any_eq_false.1 h5 l[j] (by rw [List.mem_take_iff_getElem]; exact ⟨j, by omega, rfl⟩)
      simpa using this⟩
  rw [this]
end Nm
theorem blk_out {x : Option (List UInt8) × Int} {bs : List UInt8} {v : Value} {w w' W : World} {e : Ending} (h : x = (some bs, 0)) (hB : Below w.heap.size w W) (hb : BlkRes bs W e w') (he : e = .returned v) : OutRes x w (.returned (.tuple #[v, .int .i64 0])) w' := by
  obtain ⟨g, cap, h1, h2, h3, h4⟩ := hb
  rw [he] at h1
  cases h1
  exact outRes_some h rfl (Nat.le_trans hB.size h2) h3 (hB.trans (h4.mono hB.size))
set_option maxRecDepth 100000 in
set_option maxHeartbeats 8000000 in
theorem remr_any (b n : List UInt8) (v : Value) (w : World) (hr : RdB w v b) : Calls Try.prog 30 #[v, .string (S n)] w (OutRes (Nm.rem b n) w) := by
  have h3 := recordsr_any b v w hr
  have hrv := fun (W : World) (hW : Below w.heap.size w W) => hr.below hW
  have hF0 := fun (l : List Rec) (h : Nm.recs b = some l) (h0 : 0 < l.length) => Nm.fits_zero h h0
  have hF1 := fun (l : List Rec) (k : Nat) (h : Nm.recs b = some l) (hk : k + 1 < l.length) => Nm.fits_merge h hk
  have hrem1 := @Nm.rem_dir b n
  have hrem2 := fun l => @Nm.rem_none b n l
  have hrem3 := fun l k => @Nm.rem_some b n l k
  have hall := Nm.recs_getD b
  clear hr
  replace hrv := Lib.hid hrv
  replace hF0 := Lib.hid hF0
  replace hF1 := Lib.hid hF1
  replace hrem1 := Lib.hid hrem1
  replace hrem2 := Lib.hid hrem2
  replace hrem3 := Lib.hid hrem3
  rcases hrb : Nm.recs b with _ | l
  · have hx := Lib.hid (hrem1.out hrb)
    rw [hrb] at h3
    replace h3 := Lib.hid h3
    clear hall
    go_enter Try.func30, Try.ntmps30
    go_wp2_with (go_at_call 36; refine h3.out.mono ?_; rintro e w3 ⟨u, rfl, _, hb3⟩)
    go_ret2
    exact outRes_none hx.out hb3
  rw [hrb] at h3 hall
  have hl32 : l.length ≤ 32 := hall.2
  clear hall
  have hb256 := Lib.hid (Nm.recs_len hrb)
  replace hrb := Lib.hid hrb
  unfold RecsRes at h3
  replace h3 := Lib.hid h3
  go_enter Try.func30, Try.ntmps30
  go_wp2_with (go_at_call 36; refine h3.out.mono ?_; rintro e w3 ⟨u, rfl, hown3, hb3⟩; have hrd3 := RdC.of_own recL_len hown3; replace hrd3 : RdR w3 u l := hrd3; have hpl := Lib.hid (placer_any l n u w3 hrd3 (by omega)); replace hb3 := Lib.hid hb3; replace hrd3 := Lib.hid hrd3; refine Hid.out ?_)
  refine Lib.hid ?_
  go_wp2_with fail
  refine hpl.out.mono ?_
  rintro e w5 ⟨rfl, hb4⟩
  have hB5 := hb3.out.trans (hb4.mono hb3.out.size)
  have hrd5 : RdR w5 u l := hrd3.out.below hb4
  clear hb4 hown3 hpl hrd3 hb3 h3
  have hws5 := hB5.size
  have hrv5 := Lib.hid (hrv.out w5 hB5)
  replace hB5 := Lib.hid hB5
  obtain ⟨x, hx⟩ : ∃ x, Nm.idx (Nm.isNamed n) l = x := ⟨_, rfl⟩
  rw [hx]
  by_cases hx0 : x < 0
  · have hz := Lib.hid (hrem2.out l hrb.out (Nm.idx_none _ _ (by rw [hx]; exact hx0)))
    replace hx := Lib.hid hx
    replace hrd5 := Lib.hid hrd5
    go_wp2_with fail
    go_ret2
    exact outRes_none hz.out hB5.out
  obtain ⟨i, hi, hyi, hp, ht⟩ := Nm.idx_some (Nm.isNamed n) l (by rw [hx]; exact hx0)
  rw [hx] at hyi
  have hz := hrem3.out l i hrb.out hi hp ht
  clear hp ht hx hrem1 hrem2 hrem3
  obtain ⟨bb, o, cc, hv2, _, hbb, hcell⟩ := hrd5.at (by intro e; rw [e] at hi; simp at hi)
  subst hv2
  clear hrd5
  rcases i with _ | k
  · have c1 : w5.cell? ⟨bb, o + 1, none⟩ = some (.int .i64 l[0].len) := by
      have := hcell 0 hi 1 (.int .i64 l[0].len) rfl
      rwa [Nat.zero_mul, Nat.add_zero] at this
    have hF := hF0.out l hrb.out hi
    rw [Nm.remRec_zero hi] at hz
    obtain ⟨rl, hrl⟩ : ∃ q, l[0].len = q := ⟨_, rfl⟩
    rw [hrl] at hz hF c1
    have hh : Calls Try.prog 41 #[v, .agg #[.int .i64 0, .int .i64 rl, .string ⟨#[]⟩, .int .i64 0, .int .i64 0]] w5 (BlkRes (Nm.put b ⟨0, rl, ⟨[], 0, 0⟩⟩) w5) := put_rec b v ⟨0, rl, ⟨[], 0, 0⟩⟩ w5 hrv5.out hb256.out hF
    have hI1 : (0 : Int) < (l.length : Int) := by omega
    have hx1 : x = 0 := hyi
    subst hx1
    replace hh := Lib.hid hh
    replace hz := Lib.hid hz
    clear hF hcell hrl hyi hx0
    go_wp2_with (go_at_call 41; (with_reducible refine hh.out.mono ?_); intro e w9 hb9; have hb9' := hb9; obtain ⟨g, cap, rfl, _⟩ := hb9')
    go_ret2
    exact blk_out hz.out hB5.out hb9 rfl
  have c0 := hcell k (by omega) 0
  have c1 := hcell k (by omega) 1
  have c2 := hcell k (by omega) 2
  have c3 := hcell k (by omega) 3
  have c4 := hcell k (by omega) 4
  have f1 := hcell (k + 1) hi 1
  obtain ⟨hF, hm⟩ := hF1.out l k hrb.out hi
  rw [Nm.remRec_succ hi] at hz
  clear hcell
  obtain ⟨q, hq⟩ : ∃ q, l[k] = q := ⟨_, rfl⟩
  obtain ⟨q2, hq2⟩ : ∃ q, l[k + 1] = q := ⟨_, rfl⟩
  rw [hq] at c0 c1 c2 c3 c4 hz hF hm
  rw [hq2] at f1 hz hF hm
  clear hq hq2
  obtain ⟨ra, rl, ⟨rn, ri, rk⟩⟩ := q
  obtain ⟨xa, xl, ⟨xn, xi, xk⟩⟩ := q2
  replace c0 := c0 _ rfl
  replace c1 := c1 _ rfl
  replace c2 := c2 _ rfl
  replace c3 := c3 _ rfl
  replace c4 := c4 _ rfl
  replace f1 := f1 _ rfl
  dsimp only at c0 c1 c2 c3 c4 f1 hz hF hm
  replace c0 : w5.cell? ⟨bb, o + k * 5, none⟩ = _ := c0
  have hlow : 0 ≤ rl + xl := hF.2.2.1
  have z1 : (x == 0) = false := by rw [beq_eq_false_iff_ne]; omega
  have s1 := Lib.hid (show IntKind.i64.wrap (x - 1) = (k : Int) by rw [IntKind.wrap_i64]; omega)
  have p0 := Lib.hid (show (0 : Int) ≤ (k : Int) by omega)
  have p1 := Lib.hid (show (k : Int) < (l.length : Int) by omega)
  have p2 := Lib.hid (show 0 ≤ x by omega)
  have p3 := Lib.hid (show x < (l.length : Int) by omega)
  have p4 := Lib.hid (show x.toNat = k + 1 by omega)
  have s2 := Lib.hid (show IntKind.i64.wrap (rl + xl) = rl + xl by rw [IntKind.wrap_i64]; omega)
  have hS := show ∀ W : World, Below w5.heap.size w5 W → (fun W => W.cell? ⟨bb, o + k * 5, none⟩ = some (.int .i64 ra) ∧ W.cell? ⟨bb, o + k * 5 + 1, none⟩ = some (.int .i64 rl) ∧ W.cell? ⟨bb, o + k * 5 + 2, none⟩ = some (.string (S rn)) ∧ W.cell? ⟨bb, o + k * 5 + 3, none⟩ = some (.int .i64 ri) ∧ W.cell? ⟨bb, o + k * 5 + 4, none⟩ = some (.int .i64 rk) ∧ W.cell? ⟨bb, o + (k + 1) * 5 + 1, none⟩ = some (.int .i64 xl)) W from fun W hW => ⟨(hW.cell (p := ⟨bb, _, none⟩) hbb).trans c0, (hW.cell (p := ⟨bb, _, none⟩) hbb).trans c1, (hW.cell (p := ⟨bb, _, none⟩) hbb).trans c2, (hW.cell (p := ⟨bb, _, none⟩) hbb).trans c3, (hW.cell (p := ⟨bb, _, none⟩) hbb).trans c4, (hW.cell (p := ⟨bb, _, none⟩) hbb).trans f1⟩
  have hh := put_rec b v ⟨ra, rl + xl, ⟨rn, ri, rk⟩⟩ w5.drew (show RdB w5.drew v b from hrv5.out) hb256.out hF
  unfold recV at hh
  dsimp only at hh
  replace hS := Lib.hid hS
  replace hh := Lib.hid hh
  replace hz := Lib.hid hz
  clear hF hyi f1 c0 c1 c2 c3 c4
  go_upto_region 9 with fail
  refine wp_region_noPanic ?_
  refine wp_region_held_drew (S := fun W => W.cell? ⟨bb, o + k * 5, none⟩ = some (.int .i64 ra) ∧ W.cell? ⟨bb, o + k * 5 + 1, none⟩ = some (.int .i64 rl) ∧ W.cell? ⟨bb, o + k * 5 + 2, none⟩ = some (.string (S rn)) ∧ W.cell? ⟨bb, o + k * 5 + 3, none⟩ = some (.int .i64 ri) ∧ W.cell? ⟨bb, o + k * 5 + 4, none⟩ = some (.int .i64 rk) ∧ W.cell? ⟨bb, o + (k + 1) * 5 + 1, none⟩ = some (.int .i64 xl)) (by kernel_rfl) (hS.out _ ((Below.refl w5.heap.size w5).drew)) (fun hHeld => ?_)
  refine wpAnyH_take (i := 0) (v := ?_) rfl (by kernel_rfl) (by kernel_rfl) (by kernel_rfl) (fun _ _ _ h => h) (Or.inl ⟨rfl, ?_⟩) (by assumption) ?_
  rotate_left
  · intro W hSw
    (try dsimp only at hSw)
    go_simp
    try with_reducible rfl
  try simp only [List.getElem_toArray, List.getElem_cons_zero, List.getElem_cons_succ, Act.put, List.setIfInBounds_toArray, List.set_cons_zero, List.set_cons_succ]
  refine wpAnyH_take (i := 1) (v := ?_) rfl (by kernel_rfl) (by kernel_rfl) (by kernel_rfl) (fun _ _ _ h => h) (Or.inl ⟨rfl, ?_⟩) (by assumption) ?_
  rotate_left
  · intro W hSw
    (try dsimp only at hSw)
    go_simp
    try with_reducible rfl
  try simp only [List.getElem_toArray, List.getElem_cons_zero, List.getElem_cons_succ, Act.put, List.setIfInBounds_toArray, List.set_cons_zero, List.set_cons_succ]
  refine wpAnyH_take (i := 2) (v := ?_) rfl (by kernel_rfl) (by kernel_rfl) (by kernel_rfl) (fun _ _ _ h => h) (Or.inl ⟨rfl, ?_⟩) (by assumption) ?_
  rotate_left
  · intro W hSw
    (try dsimp only at hSw)
    go_simp
    try with_reducible rfl
  try simp only [List.getElem_toArray, List.getElem_cons_zero, List.getElem_cons_succ, Act.put, List.setIfInBounds_toArray, List.set_cons_zero, List.set_cons_succ]
  have hq0 := s1.out
  refine wpAnyH_take (i := 3) (v := ?_) rfl (by kernel_rfl) (by kernel_rfl) (by kernel_rfl) (fun _ _ _ h => h) (Or.inl ⟨rfl, ?_⟩) (by assumption) ?_
  rotate_left
  · intro W hSw
    (try dsimp only at hSw)
    go_simp
    try with_reducible rfl
  try simp only [List.getElem_toArray, List.getElem_cons_zero, List.getElem_cons_succ, Act.put, List.setIfInBounds_toArray, List.set_cons_zero, List.set_cons_succ]
  clear hq0
  have hq0 := p0.out
  have hq1 := p1.out
  refine wpAnyH_take (i := 4) (v := ?_) rfl (by kernel_rfl) (by kernel_rfl) (by kernel_rfl) (fun _ _ _ h => h) (Or.inl ⟨rfl, ?_⟩) (by assumption) ?_
  rotate_left
  · intro W hSw
    (try dsimp only at hSw)
    go_simp
    try with_reducible rfl
  try simp only [List.getElem_toArray, List.getElem_cons_zero, List.getElem_cons_succ, Act.put, List.setIfInBounds_toArray, List.set_cons_zero, List.set_cons_succ]
  clear hq0 hq1
  refine wpAnyH_take (i := 5) (v := ?_) rfl (by kernel_rfl) (by kernel_rfl) (by kernel_rfl) (fun _ _ _ h => h) (Or.inl ⟨rfl, ?_⟩) (by assumption) ?_
  rotate_left
  · intro W hSw
    (try dsimp only at hSw)
    go_simp
    try with_reducible rfl
  try simp only [List.getElem_toArray, List.getElem_cons_zero, List.getElem_cons_succ, Act.put, List.setIfInBounds_toArray, List.set_cons_zero, List.set_cons_succ]
  refine wpAnyH_take (i := 6) (v := ?_) rfl (by kernel_rfl) (by kernel_rfl) (by kernel_rfl) (fun _ _ _ h => h) (Or.inl ⟨rfl, ?_⟩) (by assumption) ?_
  rotate_left
  · intro W hSw
    (try dsimp only at hSw)
    go_simp
    try with_reducible rfl
  try simp only [List.getElem_toArray, List.getElem_cons_zero, List.getElem_cons_succ, Act.put, List.setIfInBounds_toArray, List.set_cons_zero, List.set_cons_succ]
  refine wpAnyH_take (i := 7) (v := ?_) rfl (by kernel_rfl) (by kernel_rfl) (by kernel_rfl) (fun _ _ _ h => h) (Or.inl ⟨rfl, ?_⟩) (by assumption) ?_
  rotate_left
  · intro W hSw
    (try dsimp only at hSw)
    go_simp
    try with_reducible rfl
  try simp only [List.getElem_toArray, List.getElem_cons_zero, List.getElem_cons_succ, Act.put, List.setIfInBounds_toArray, List.set_cons_zero, List.set_cons_succ]
  refine wpAnyH_take (i := 8) (v := ?_) rfl (by kernel_rfl) (by kernel_rfl) (by kernel_rfl) (fun _ _ _ h => h) (Or.inl ⟨rfl, ?_⟩) (by assumption) ?_
  rotate_left
  · intro W hSw
    (try dsimp only at hSw)
    go_simp
    try with_reducible rfl
  try simp only [List.getElem_toArray, List.getElem_cons_zero, List.getElem_cons_succ, Act.put, List.setIfInBounds_toArray, List.set_cons_zero, List.set_cons_succ]
  have hq0 := s1.out
  refine wpAnyH_take (i := 9) (v := ?_) rfl (by kernel_rfl) (by kernel_rfl) (by kernel_rfl) (fun _ _ _ h => h) (Or.inl ⟨rfl, ?_⟩) (by assumption) ?_
  rotate_left
  · intro W hSw
    (try dsimp only at hSw)
    go_simp
    try with_reducible rfl
  try simp only [List.getElem_toArray, List.getElem_cons_zero, List.getElem_cons_succ, Act.put, List.setIfInBounds_toArray, List.set_cons_zero, List.set_cons_succ]
  clear hq0
  have hq0 := p0.out
  have hq1 := p1.out
  refine wpAnyH_take (i := 10) (v := ?_) rfl (by kernel_rfl) (by kernel_rfl) (by kernel_rfl) (fun _ _ _ h => h) (Or.inl ⟨rfl, ?_⟩) (by assumption) ?_
  rotate_left
  · intro W hSw
    (try dsimp only at hSw)
    go_simp
    try with_reducible rfl
  try simp only [List.getElem_toArray, List.getElem_cons_zero, List.getElem_cons_succ, Act.put, List.setIfInBounds_toArray, List.set_cons_zero, List.set_cons_succ]
  clear hq0 hq1
  refine wpAnyH_take (i := 11) (v := ?_) rfl (by kernel_rfl) (by kernel_rfl) (by kernel_rfl) (fun _ _ _ h => h) (Or.inl ⟨rfl, ?_⟩) (by assumption) ?_
  rotate_left
  · intro W hSw
    (try dsimp only at hSw)
    go_simp
    try with_reducible rfl
  try simp only [List.getElem_toArray, List.getElem_cons_zero, List.getElem_cons_succ, Act.put, List.setIfInBounds_toArray, List.set_cons_zero, List.set_cons_succ]
  refine wpAnyH_take (i := 12) (v := ?_) rfl (by kernel_rfl) (by kernel_rfl) (by kernel_rfl) (fun _ _ _ h => h) (Or.inl ⟨rfl, ?_⟩) (by assumption) ?_
  rotate_left
  · intro W hSw
    (try dsimp only at hSw)
    go_simp
    try with_reducible rfl
  try simp only [List.getElem_toArray, List.getElem_cons_zero, List.getElem_cons_succ, Act.put, List.setIfInBounds_toArray, List.set_cons_zero, List.set_cons_succ]
  refine wpAnyH_take (i := 13) (v := ?_) rfl (by kernel_rfl) (by kernel_rfl) (by kernel_rfl) (fun _ _ _ h => h) (Or.inl ⟨rfl, ?_⟩) (by assumption) ?_
  rotate_left
  · intro W hSw
    (try dsimp only at hSw)
    go_simp
    try with_reducible rfl
  try simp only [List.getElem_toArray, List.getElem_cons_zero, List.getElem_cons_succ, Act.put, List.setIfInBounds_toArray, List.set_cons_zero, List.set_cons_succ]
  refine wpAnyH_take (i := 14) (v := ?_) rfl (by kernel_rfl) (by kernel_rfl) (by kernel_rfl) (fun _ _ _ h => h) (Or.inl ⟨rfl, ?_⟩) (by assumption) ?_
  rotate_left
  · intro W hSw
    (try dsimp only at hSw)
    go_simp
    try with_reducible rfl
  try simp only [List.getElem_toArray, List.getElem_cons_zero, List.getElem_cons_succ, Act.put, List.setIfInBounds_toArray, List.set_cons_zero, List.set_cons_succ]
  have hq0 := p2.out
  have hq1 := p3.out
  have hq2 := p4.out
  refine wpAnyH_take (i := 15) (v := ?_) rfl (by kernel_rfl) (by kernel_rfl) (by kernel_rfl) (fun _ _ _ h => h) (Or.inl ⟨rfl, ?_⟩) (by assumption) ?_
  rotate_left
  · intro W hSw
    (try dsimp only at hSw)
    go_simp
    try with_reducible rfl
  try simp only [List.getElem_toArray, List.getElem_cons_zero, List.getElem_cons_succ, Act.put, List.setIfInBounds_toArray, List.set_cons_zero, List.set_cons_succ]
  clear hq0 hq1 hq2
  refine wpAnyH_take (i := 16) (v := ?_) rfl (by kernel_rfl) (by kernel_rfl) (by kernel_rfl) (fun _ _ _ h => h) (Or.inl ⟨rfl, ?_⟩) (by assumption) ?_
  rotate_left
  · intro W hSw
    (try dsimp only at hSw)
    go_simp
    try with_reducible rfl
  try simp only [List.getElem_toArray, List.getElem_cons_zero, List.getElem_cons_succ, Act.put, List.setIfInBounds_toArray, List.set_cons_zero, List.set_cons_succ]
  refine wpAnyH_take (i := 17) (v := ?_) rfl (by kernel_rfl) (by kernel_rfl) (by kernel_rfl) (fun _ _ _ h => h) (Or.inl ⟨rfl, ?_⟩) (by assumption) ?_
  rotate_left
  · intro W hSw
    (try dsimp only at hSw)
    go_simp
    try with_reducible rfl
  try simp only [List.getElem_toArray, List.getElem_cons_zero, List.getElem_cons_succ, Act.put, List.setIfInBounds_toArray, List.set_cons_zero, List.set_cons_succ]
  have hq0 := s2.out
  refine wpAnyH_take (i := 18) (v := ?_) rfl (by kernel_rfl) (by kernel_rfl) (by kernel_rfl) (fun _ _ _ h => h) (Or.inl ⟨rfl, ?_⟩) (by assumption) ?_
  rotate_left
  · intro W hSw
    (try dsimp only at hSw)
    go_simp
    try with_reducible rfl
  try simp only [List.getElem_toArray, List.getElem_cons_zero, List.getElem_cons_succ, Act.put, List.setIfInBounds_toArray, List.set_cons_zero, List.set_cons_succ]
  clear hq0
  refine wpAnyH_take (i := 19) (v := ?_) rfl (by kernel_rfl) (by kernel_rfl) (by kernel_rfl) (fun _ _ _ h => h) (Or.inl ⟨rfl, ?_⟩) (by assumption) ?_
  rotate_left
  · intro W hSw
    (try dsimp only at hSw)
    go_simp
    try with_reducible rfl
  try simp only [List.getElem_toArray, List.getElem_cons_zero, List.getElem_cons_succ, Act.put, List.setIfInBounds_toArray, List.set_cons_zero, List.set_cons_succ]
  refine wpAnyH_take (i := 20) (v := ?_) rfl (by kernel_rfl) (by kernel_rfl) (by kernel_rfl) (fun _ _ _ h => h) (Or.inl ⟨rfl, ?_⟩) (by assumption) ?_
  rotate_left
  · intro W hSw
    (try dsimp only at hSw)
    go_simp
    try with_reducible rfl
  try simp only [List.getElem_toArray, List.getElem_cons_zero, List.getElem_cons_succ, Act.put, List.setIfInBounds_toArray, List.set_cons_zero, List.set_cons_succ]
  have hq0 := s1.out
  refine wpAnyH_take (i := 21) (v := ?_) rfl (by kernel_rfl) (by kernel_rfl) (by kernel_rfl) (fun _ _ _ h => h) (Or.inl ⟨rfl, ?_⟩) (by assumption) ?_
  rotate_left
  · intro W hSw
    (try dsimp only at hSw)
    go_simp
    try with_reducible rfl
  try simp only [List.getElem_toArray, List.getElem_cons_zero, List.getElem_cons_succ, Act.put, List.setIfInBounds_toArray, List.set_cons_zero, List.set_cons_succ]
  clear hq0
  have hq0 := p0.out
  have hq1 := p1.out
  refine wpAnyH_take (i := 22) (v := ?_) rfl (by kernel_rfl) (by kernel_rfl) (by kernel_rfl) (fun _ _ _ h => h) (Or.inl ⟨rfl, ?_⟩) (by assumption) ?_
  rotate_left
  · intro W hSw
    (try dsimp only at hSw)
    go_simp
    try with_reducible rfl
  try simp only [List.getElem_toArray, List.getElem_cons_zero, List.getElem_cons_succ, Act.put, List.setIfInBounds_toArray, List.set_cons_zero, List.set_cons_succ]
  clear hq0 hq1
  refine wpAnyH_take (i := 23) (v := ?_) rfl (by kernel_rfl) (by kernel_rfl) (by kernel_rfl) (fun _ _ _ h => h) (Or.inl ⟨rfl, ?_⟩) (by assumption) ?_
  rotate_left
  · intro W hSw
    (try dsimp only at hSw)
    go_simp
    try with_reducible rfl
  try simp only [List.getElem_toArray, List.getElem_cons_zero, List.getElem_cons_succ, Act.put, List.setIfInBounds_toArray, List.set_cons_zero, List.set_cons_succ]
  refine wpAnyH_take (i := 24) (v := ?_) rfl (by kernel_rfl) (by kernel_rfl) (by kernel_rfl) (fun _ _ _ h => h) (Or.inl ⟨rfl, ?_⟩) (by assumption) ?_
  rotate_left
  · intro W hSw
    (try dsimp only at hSw)
    go_simp
    try with_reducible rfl
  try simp only [List.getElem_toArray, List.getElem_cons_zero, List.getElem_cons_succ, Act.put, List.setIfInBounds_toArray, List.set_cons_zero, List.set_cons_succ]
  refine wpAnyH_take (i := 25) (v := ?_) rfl (by kernel_rfl) (by kernel_rfl) (by kernel_rfl) (fun _ _ _ h => h) (Or.inl ⟨rfl, ?_⟩) (by assumption) ?_
  rotate_left
  · intro W hSw
    (try dsimp only at hSw)
    go_simp
    try with_reducible rfl
  try simp only [List.getElem_toArray, List.getElem_cons_zero, List.getElem_cons_succ, Act.put, List.setIfInBounds_toArray, List.set_cons_zero, List.set_cons_succ]
  refine wpAnyH_ready (rs := [26]) (by kernel_rfl) (by simp) (AllReadyH.cons rfl (fun K hK => ?_) AllReadyH.nil)
  go_simp
  (with_reducible refine hh.out.mono ?_)
  intro e w9 hb9
  have hb9' := hb9
  obtain ⟨g, cap, rfl, _, _, hbw⟩ := hb9'
  refine hK.out _ _ (hS.out _ (below_undrew hbw)) (fun hHeld => ?_)
  clear hK
  try simp only [List.getElem_toArray, List.getElem_cons_zero, List.getElem_cons_succ, Act.put, List.setIfInBounds_toArray, List.set_cons_zero, List.set_cons_succ]
  refine wpAnyH_take (i := 27) (v := ?_) rfl (by kernel_rfl) (by kernel_rfl) (by kernel_rfl) (fun _ _ _ h => h) (Or.inl ⟨rfl, ?_⟩) (by assumption) ?_
  rotate_left
  · intro W hSw
    (try dsimp only at hSw)
    go_simp
    try with_reducible rfl
  try simp only [List.getElem_toArray, List.getElem_cons_zero, List.getElem_cons_succ, Act.put, List.setIfInBounds_toArray, List.set_cons_zero, List.set_cons_succ]
  refine wpAnyH_take (i := 28) (v := ?_) rfl (by kernel_rfl) (by kernel_rfl) (by kernel_rfl) (fun _ _ _ h => h) (Or.inl ⟨rfl, ?_⟩) (by assumption) ?_
  rotate_left
  · intro W hSw
    (try dsimp only at hSw)
    go_simp
    try with_reducible rfl
  try simp only [List.getElem_toArray, List.getElem_cons_zero, List.getElem_cons_succ, Act.put, List.setIfInBounds_toArray, List.set_cons_zero, List.set_cons_succ]
  refine wpAnyH_done (by kernel_rfl) ?_ _
  (try dsimp only [NoPanic])
  go_wp2_with fail
  go_ret2
  exact blk_out hz.out hB5.out.drew hb9 rfl
set_option maxRecDepth 100000 in
set_option maxHeartbeats 8000000 in
theorem turnr_any (b : List UInt8) (e : Ent) (v : Value) (w : World) (hr : RdB w v b) : Calls Try.prog 32 #[v, entV e] w (OutRes (Nm.turn b e) w) := by
  have hE1 := @Nm.turn_err b e
  have hE2 := @Nm.turn_dir b e
  have hE3 := fun l => @Nm.turn_none b e l
  have hE4 := fun l k => @Nm.turn_some b e l k
  have hF := fun (l : List Rec) (k : Nat) (h : Nm.recs b = some l) (hk : k < l.length) (hc : Nm.chk e = 0) (hn : Nm.isNamed e.name l[k] = true) => Nm.fits_turn h hk hc hn
  have hall := Nm.recs_getD b
  have hchk := fun W => checkr_any e W
  have hrecs := fun (W : World) (hW : Below w.heap.size w W) => recordsr_any b v W (hr.below hW)
  have hrv := fun (W : World) (hW : Below w.heap.size w W) => hr.below hW
  clear hr
  obtain ⟨en, ei, ek⟩ := e
  have hB1 := (Below.refl _ w).alloc (Nat.le_refl _) (.cells #[.string (S en), .int .i64 ei, .int .i64 ek] 24)
  have bx1 := Box.new w 24 #[.string (S en), .int .i64 ei, .int .i64 ek]
  unfold entV at hchk ⊢
  dsimp only at *
  obtain ⟨c, hc⟩ : ∃ c, Nm.chk ⟨en, ei, ek⟩ = c := ⟨_, rfl⟩
  rw [hc] at hE1 hE2 hE3 hE4 hF hchk
  clear hc
  replace hE1 := Lib.hid hE1
  replace hE2 := Lib.hid hE2
  replace hE3 := Lib.hid hE3
  replace hE4 := Lib.hid hE4
  replace hF := Lib.hid hF
  replace hchk := Lib.hid hchk
  replace hrecs := Lib.hid hrecs
  replace hrv := Lib.hid hrv
  replace hB1 := Lib.hid hB1
  replace bx1 := Lib.hid bx1
  replace hall := Lib.hid hall
  go_enter Try.func32, Try.ntmps32
  go_wp2_with fail
  refine (hchk.out _).mono ?_
  rintro e w2 ⟨rfl, hb⟩
  have hB2 := hB1.out.trans (hb.mono hB1.out.size)
  have be2 := bx1.out.below hb
  clear hb hB1 bx1 hchk
  replace hB2 := Lib.hid hB2
  by_cases hc0 : c = 0
  case neg =>
    have n0 : (c != 0) = true := by simpa using hc0
    have hx := Lib.hid (hE1.out hc0)
    clear hc0
    replace be2 := Lib.hid be2
    go_wp2_with fail
    go_ret2
    exact outRes_none hx.out hB2.out
  have n0 : (c != 0) = false := by simpa using hc0
  replace hc0 := Lib.hid hc0
  have h3 := hrecs.out w2 hB2.out
  rcases hrb : Nm.recs b with _ | l
  · have hx := Lib.hid (hE2.out hc0.out hrb)
    rw [hrb] at h3
    replace h3 := Lib.hid h3
    replace be2 := Lib.hid be2
    go_wp2_with (go_at_call 36; refine h3.out.mono ?_; rintro e w3 ⟨u, rfl, _, hb3⟩)
    go_ret2
    exact outRes_none hx.out (hB2.out.trans (hb3.mono hB2.out.size))
  rw [hrb] at h3 hall
  have hl32 : l.length ≤ 32 := hall.out.2
  have hb256 := Lib.hid (Nm.recs_len hrb)
  replace hrb := Lib.hid hrb
  unfold RecsRes at h3
  replace h3 := Lib.hid h3
  go_wp2_with (go_at_call 36; refine h3.out.mono ?_; rintro e w3 ⟨u, rfl, hown3, hb3⟩; have hrd3 := RdC.of_own recL_len hown3; replace hrd3 : RdR w3 u l := hrd3; have hpl := Lib.hid (placer_any l en u w3 hrd3 (by omega)); have hB3 := hB2.out.trans (hb3.mono hB2.out.size); have be3 := be2.below hb3; have d0 := be3.get 0 _ rfl; have d1 := be3.get 1 _ rfl; have d2 := be3.get 2 _ rfl; replace hB3 := Lib.hid hB3; replace hrd3 := Lib.hid hrd3; replace be3 := Lib.hid be3; refine Hid.out ?_)
  refine Lib.hid ?_
  go_wp2_with fail
  refine hpl.out.mono ?_
  rintro e w5 ⟨rfl, hb4⟩
  have hB5 := hB3.out.trans (hb4.mono hB3.out.size)
  have be5 := be3.out.below hb4
  have hrd5 : RdR w5 u l := hrd3.out.below hb4
  clear hb4 hown3 hb3 d0 d1 d2 hpl hrd3 be3 hB3 be2 hB2 h3 hrecs hall
  have hws5 := hB5.size
  have hrv5 := Lib.hid (hrv.out w5 hB5)
  replace hB5 := Lib.hid hB5
  replace be5 := Lib.hid be5
  replace hrd5 := Lib.hid hrd5
  obtain ⟨x, hx⟩ : ∃ x, Nm.idx (Nm.isNamed en) l = x := ⟨_, rfl⟩
  rw [hx]
  by_cases hx0 : x < 0
  · have hz := Lib.hid (hE3.out l hc0.out hrb.out (Nm.idx_none _ _ (by rw [hx]; exact hx0)))
    replace hx := Lib.hid hx
    go_wp2_with fail
    go_ret2
    exact outRes_none hz.out hB5.out
  obtain ⟨i, hi, hyi, hp, ht⟩ := Nm.idx_some (Nm.isNamed en) l (by rw [hx]; exact hx0)
  rw [hx] at hyi
  have hz := hE4.out l i hc0.out hrb.out hi hp ht
  have hFi := hF.out l i hrb.out hi hc0.out hp
  clear hp ht hx hE1 hE2 hE3 hE4 hF
  subst hyi
  obtain ⟨bb, o, cc, hv2, _, hbb, hcell⟩ := hrd5.out.at (by intro e; rw [e] at hi; simp at hi)
  subst hv2
  clear hrd5
  have c0 := hcell i hi 0
  have c1 := hcell i hi 1
  clear hcell
  obtain ⟨q, hq⟩ : ∃ q, l[i] = q := ⟨_, rfl⟩
  rw [hq] at c0 c1 hz hFi
  clear hq
  obtain ⟨ra, rl, ⟨rn, ri, rk⟩⟩ := q
  replace c0 := c0 _ rfl
  replace c1 := c1 _ rfl
  dsimp only at c0 c1 hz hFi
  replace c0 : w5.cell? ⟨bb, o + i * 5, none⟩ = _ := c0
  have p0 := Lib.hid (show (0 : Int) ≤ (i : Int) by omega)
  have p1 := Lib.hid (show (i : Int) < (l.length : Int) by omega)
  have hS := show ∀ W : World, Below w5.heap.size w5 W → (fun W => W.cell? ⟨bb, o + i * 5, none⟩ = some (.int .i64 ra) ∧ W.cell? ⟨bb, o + i * 5 + 1, none⟩ = some (.int .i64 rl) ∧ W.cell? ⟨w.heap.size, 0, none⟩ = some (.string (S en)) ∧ W.cell? ⟨w.heap.size, 1, none⟩ = some (.int .i64 ei) ∧ W.cell? ⟨w.heap.size, 2, none⟩ = some (.int .i64 ek)) W from fun W hW => ⟨(hW.cell (p := ⟨bb, _, none⟩) hbb).trans c0, (hW.cell (p := ⟨bb, _, none⟩) hbb).trans c1, (be5.out.below hW).get 0 _ rfl, (be5.out.below hW).get 1 _ rfl, (be5.out.below hW).get 2 _ rfl⟩
  have hh := put_rec b v ⟨ra, rl, ⟨en, ei, ek⟩⟩ w5.drew (show RdB w5.drew v b from hrv5.out) hb256.out hFi
  unfold recV at hh
  dsimp only at hh
  replace hS := Lib.hid hS
  replace hh := Lib.hid hh
  replace hz := Lib.hid hz
  clear hFi c0 c1
  go_upto_region 10 with fail
  refine wp_region_noPanic ?_
  refine wp_region_held_drew (S := fun W => W.cell? ⟨bb, o + i * 5, none⟩ = some (.int .i64 ra) ∧ W.cell? ⟨bb, o + i * 5 + 1, none⟩ = some (.int .i64 rl) ∧ W.cell? ⟨w.heap.size, 0, none⟩ = some (.string (S en)) ∧ W.cell? ⟨w.heap.size, 1, none⟩ = some (.int .i64 ei) ∧ W.cell? ⟨w.heap.size, 2, none⟩ = some (.int .i64 ek)) (by kernel_rfl) (hS.out _ ((Below.refl w5.heap.size w5).drew)) (fun hHeld => ?_)
  refine wpAnyH_take (i := 0) (v := ?_) rfl (by kernel_rfl) (by kernel_rfl) (by kernel_rfl) (fun _ _ _ h => h) (Or.inl ⟨rfl, ?_⟩) (by assumption) ?_
  rotate_left
  · intro W hSw
    (try dsimp only at hSw)
    go_simp
    try with_reducible rfl
  try simp only [List.getElem_toArray, List.getElem_cons_zero, List.getElem_cons_succ, Act.put, List.setIfInBounds_toArray, List.set_cons_zero, List.set_cons_succ]
  refine wpAnyH_take (i := 1) (v := ?_) rfl (by kernel_rfl) (by kernel_rfl) (by kernel_rfl) (fun _ _ _ h => h) (Or.inl ⟨rfl, ?_⟩) (by assumption) ?_
  rotate_left
  · intro W hSw
    (try dsimp only at hSw)
    go_simp
    try with_reducible rfl
  try simp only [List.getElem_toArray, List.getElem_cons_zero, List.getElem_cons_succ, Act.put, List.setIfInBounds_toArray, List.set_cons_zero, List.set_cons_succ]
  refine wpAnyH_take (i := 2) (v := ?_) rfl (by kernel_rfl) (by kernel_rfl) (by kernel_rfl) (fun _ _ _ h => h) (Or.inl ⟨rfl, ?_⟩) (by assumption) ?_
  rotate_left
  · intro W hSw
    (try dsimp only at hSw)
    go_simp
    try with_reducible rfl
  try simp only [List.getElem_toArray, List.getElem_cons_zero, List.getElem_cons_succ, Act.put, List.setIfInBounds_toArray, List.set_cons_zero, List.set_cons_succ]
  have hq0 := p0.out
  have hq1 := p1.out
  refine wpAnyH_take (i := 3) (v := ?_) rfl (by kernel_rfl) (by kernel_rfl) (by kernel_rfl) (fun _ _ _ h => h) (Or.inl ⟨rfl, ?_⟩) (by assumption) ?_
  rotate_left
  · intro W hSw
    (try dsimp only at hSw)
    go_simp
    try with_reducible rfl
  try simp only [List.getElem_toArray, List.getElem_cons_zero, List.getElem_cons_succ, Act.put, List.setIfInBounds_toArray, List.set_cons_zero, List.set_cons_succ]
  clear hq0 hq1
  refine wpAnyH_take (i := 4) (v := ?_) rfl (by kernel_rfl) (by kernel_rfl) (by kernel_rfl) (fun _ _ _ h => h) (Or.inl ⟨rfl, ?_⟩) (by assumption) ?_
  rotate_left
  · intro W hSw
    (try dsimp only at hSw)
    go_simp
    try with_reducible rfl
  try simp only [List.getElem_toArray, List.getElem_cons_zero, List.getElem_cons_succ, Act.put, List.setIfInBounds_toArray, List.set_cons_zero, List.set_cons_succ]
  refine wpAnyH_take (i := 5) (v := ?_) rfl (by kernel_rfl) (by kernel_rfl) (by kernel_rfl) (fun _ _ _ h => h) (Or.inl ⟨rfl, ?_⟩) (by assumption) ?_
  rotate_left
  · intro W hSw
    (try dsimp only at hSw)
    go_simp
    try with_reducible rfl
  try simp only [List.getElem_toArray, List.getElem_cons_zero, List.getElem_cons_succ, Act.put, List.setIfInBounds_toArray, List.set_cons_zero, List.set_cons_succ]
  refine wpAnyH_take (i := 6) (v := ?_) rfl (by kernel_rfl) (by kernel_rfl) (by kernel_rfl) (fun _ _ _ h => h) (Or.inl ⟨rfl, ?_⟩) (by assumption) ?_
  rotate_left
  · intro W hSw
    (try dsimp only at hSw)
    go_simp
    try with_reducible rfl
  try simp only [List.getElem_toArray, List.getElem_cons_zero, List.getElem_cons_succ, Act.put, List.setIfInBounds_toArray, List.set_cons_zero, List.set_cons_succ]
  refine wpAnyH_take (i := 7) (v := ?_) rfl (by kernel_rfl) (by kernel_rfl) (by kernel_rfl) (fun _ _ _ h => h) (Or.inl ⟨rfl, ?_⟩) (by assumption) ?_
  rotate_left
  · intro W hSw
    (try dsimp only at hSw)
    go_simp
    try with_reducible rfl
  try simp only [List.getElem_toArray, List.getElem_cons_zero, List.getElem_cons_succ, Act.put, List.setIfInBounds_toArray, List.set_cons_zero, List.set_cons_succ]
  have hq0 := p0.out
  have hq1 := p1.out
  refine wpAnyH_take (i := 8) (v := ?_) rfl (by kernel_rfl) (by kernel_rfl) (by kernel_rfl) (fun _ _ _ h => h) (Or.inl ⟨rfl, ?_⟩) (by assumption) ?_
  rotate_left
  · intro W hSw
    (try dsimp only at hSw)
    go_simp
    try with_reducible rfl
  try simp only [List.getElem_toArray, List.getElem_cons_zero, List.getElem_cons_succ, Act.put, List.setIfInBounds_toArray, List.set_cons_zero, List.set_cons_succ]
  clear hq0 hq1
  refine wpAnyH_take (i := 9) (v := ?_) rfl (by kernel_rfl) (by kernel_rfl) (by kernel_rfl) (fun _ _ _ h => h) (Or.inl ⟨rfl, ?_⟩) (by assumption) ?_
  rotate_left
  · intro W hSw
    (try dsimp only at hSw)
    go_simp
    try with_reducible rfl
  try simp only [List.getElem_toArray, List.getElem_cons_zero, List.getElem_cons_succ, Act.put, List.setIfInBounds_toArray, List.set_cons_zero, List.set_cons_succ]
  refine wpAnyH_take (i := 10) (v := ?_) rfl (by kernel_rfl) (by kernel_rfl) (by kernel_rfl) (fun _ _ _ h => h) (Or.inl ⟨rfl, ?_⟩) (by assumption) ?_
  rotate_left
  · intro W hSw
    (try dsimp only at hSw)
    go_simp
    try with_reducible rfl
  try simp only [List.getElem_toArray, List.getElem_cons_zero, List.getElem_cons_succ, Act.put, List.setIfInBounds_toArray, List.set_cons_zero, List.set_cons_succ]
  refine wpAnyH_take (i := 11) (v := ?_) rfl (by kernel_rfl) (by kernel_rfl) (by kernel_rfl) (fun _ _ _ h => h) (Or.inl ⟨rfl, ?_⟩) (by assumption) ?_
  rotate_left
  · intro W hSw
    (try dsimp only at hSw)
    go_simp
    try with_reducible rfl
  try simp only [List.getElem_toArray, List.getElem_cons_zero, List.getElem_cons_succ, Act.put, List.setIfInBounds_toArray, List.set_cons_zero, List.set_cons_succ]
  refine wpAnyH_take (i := 12) (v := ?_) rfl (by kernel_rfl) (by kernel_rfl) (by kernel_rfl) (fun _ _ _ h => h) (Or.inl ⟨rfl, ?_⟩) (by assumption) ?_
  rotate_left
  · intro W hSw
    (try dsimp only at hSw)
    go_simp
    try with_reducible rfl
  try simp only [List.getElem_toArray, List.getElem_cons_zero, List.getElem_cons_succ, Act.put, List.setIfInBounds_toArray, List.set_cons_zero, List.set_cons_succ]
  refine wpAnyH_ready (rs := [13]) (by kernel_rfl) (by simp) (AllReadyH.cons rfl (fun K hK => ?_) AllReadyH.nil)
  go_simp
  (with_reducible refine hh.out.mono ?_)
  intro e w9 hb9
  have hb9' := hb9
  obtain ⟨g, cap, rfl, _, _, hbw⟩ := hb9'
  refine hK.out _ _ (hS.out _ (below_undrew hbw)) (fun hHeld => ?_)
  clear hK
  try simp only [List.getElem_toArray, List.getElem_cons_zero, List.getElem_cons_succ, Act.put, List.setIfInBounds_toArray, List.set_cons_zero, List.set_cons_succ]
  refine wpAnyH_take (i := 14) (v := ?_) rfl (by kernel_rfl) (by kernel_rfl) (by kernel_rfl) (fun _ _ _ h => h) (Or.inl ⟨rfl, ?_⟩) (by assumption) ?_
  rotate_left
  · intro W hSw
    (try dsimp only at hSw)
    go_simp
    try with_reducible rfl
  try simp only [List.getElem_toArray, List.getElem_cons_zero, List.getElem_cons_succ, Act.put, List.setIfInBounds_toArray, List.set_cons_zero, List.set_cons_succ]
  refine wpAnyH_take (i := 15) (v := ?_) rfl (by kernel_rfl) (by kernel_rfl) (by kernel_rfl) (fun _ _ _ h => h) (Or.inl ⟨rfl, ?_⟩) (by assumption) ?_
  rotate_left
  · intro W hSw
    (try dsimp only at hSw)
    go_simp
    try with_reducible rfl
  try simp only [List.getElem_toArray, List.getElem_cons_zero, List.getElem_cons_succ, Act.put, List.setIfInBounds_toArray, List.set_cons_zero, List.set_cons_succ]
  refine wpAnyH_done (by kernel_rfl) ?_ _
  (try dsimp only [NoPanic])
  go_wp2_with fail
  go_ret2
  exact blk_out hz.out hB5.out.drew hb9 rfl
end Go.Proofs.Ytmlgjmcenjbbeaa
