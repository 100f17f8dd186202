/- dirent.Remove. -/
import Derived.Test.YtmlgjmcenjbbeaaAf
import Derived.Deep.RegionHeld3
import Derived.Deep.DeepCutAuto
namespace Go.Proofs.Ytmlgjmcenjbbeaa
open Go.RowKit
set_option maxRecDepth 100000 in
set_option maxHeartbeats 8000000 in
theorem rem_any (b n : List UInt8) (v : Value) (w : World) (hr : RdB w v b) : Calls Try.prog 27 #[v, .string (S n)] w (OutRes (Nm.rem b n) w) := by
  have h3 := records_any b v w hr
  have hcl := fun (hb : b.length = 256) (W : World) (hW : Below w.heap.size w W) => clone256 (clone_any b v W (hr.below hW) hb) hb
  have hF0 := fun (l : List Rec) (h : Nm.recs b = some l) (h0 : 0 < l.length) => Nm.fits_zero h h0
  have hF1 := fun (l : List Rec) (k : Nat) (h : Nm.recs b = some l) (hk : k + 1 < l.length) => Nm.fits_merge h hk
  have hrem1 : Nm.recs b = none → Nm.rem b n = (none, 160) := fun h => by unfold Nm.rem; rw [h]
  have hrem2 : ∀ l, Nm.recs b = some l → l.any (Nm.isNamed n) = false → Nm.rem b n = (none, 4) := fun l h h2 => by unfold Nm.rem; rw [h]; simp only; rw [if_neg (by rw [h2]; simp)]
  have hrem3 : ∀ l (k : Nat) (hk : k < l.length), Nm.recs b = some l → Nm.isNamed n l[k] = true → (l.take k).any (Nm.isNamed n) = false → Nm.rem b n = (some (Nm.remRec b l k), 0) := fun l k hk h h4 h5 => by
    unfold Nm.rem; rw [h]; simp only
    rw [if_pos (List.any_eq_true.2 ⟨l[k], List.getElem_mem hk, h4⟩)]
    have : l.findIdx (Nm.isNamed n) = k := by
      rw [List.findIdx_eq hk]
      exact ⟨h4, fun j hj => by
        have := List.any_eq_false.1 h5 l[j] (by rw [List.mem_take_iff_getElem]; exact ⟨j, by omega, rfl⟩)
        simpa using this⟩
    rw [this]
  have hall := Nm.recs_getD b
  clear hr
  replace hcl := Lib.hid hcl
  replace hF0 := Lib.hid hF0
  replace hF1 := Lib.hid hF1
  replace hrem1 := Lib.hid hrem1
  replace hrem2 := Lib.hid hrem2
  replace hrem3 := Lib.hid hrem3
  rcases hrb : Nm.recs b with _ | l
  · have hx := Lib.hid (hrem1.out hrb)
    rw [hrb] at h3
    replace h3 := Lib.hid h3
    clear hall
    go_enter Try.func27, Try.ntmps27
    go_wp2_with (go_at_call 39; refine h3.out.mono ?_; rintro e w3 ⟨u, rfl, _, hb3⟩)
    go_ret2
    exact outRes_none hx.out hb3
  rw [hrb] at h3 hall
  have hl32 : l.length ≤ 32 := hall.2
  clear hall
  have hb256 := Lib.hid (Nm.recs_len hrb)
  replace hrb := Lib.hid hrb
  unfold RecsRes at h3
  replace h3 := Lib.hid h3
  go_enter Try.func27, Try.ntmps27
  go_wp2_with (go_at_call 39; refine h3.out.mono ?_; rintro e w3 ⟨u, rfl, hown3, hb3⟩; have hrd3 := RdC.of_own recL_len hown3; replace hrd3 : RdR w3 u l := hrd3; have hpl := Lib.hid (place_any l n u w3 hrd3 (by omega)); replace hb3 := Lib.hid hb3; replace hrd3 := Lib.hid hrd3; refine Hid.out ?_)
  refine Lib.hid ?_
  go_wp2_with fail
  refine hpl.out.mono ?_
  rintro e w4 ⟨rfl, hb4⟩
  have hB4 := hb3.out.trans (hb4.mono hb3.out.size)
  have hrd4 : RdR w4 u l := hrd3.out.below hb4
  clear hb4 hown3 hpl hrd3 hb3 h3
  have hws4 := hB4.size
  replace hB4 := Lib.hid hB4
  obtain ⟨x, hx⟩ : ∃ x, Nm.idx (Nm.isNamed n) l = x := ⟨_, rfl⟩
  rw [hx]
  by_cases hx0 : x < 0
  · have hz := Lib.hid (hrem2.out l hrb.out (Nm.idx_none _ _ (by rw [hx]; exact hx0)))
    replace hx := Lib.hid hx
    replace hrd4 := Lib.hid hrd4
    go_wp2_with fail
    go_ret2
    exact outRes_none hz.out hB4.out
  obtain ⟨i, hi, hyi, hp, ht⟩ := Nm.idx_some (Nm.isNamed n) l (by rw [hx]; exact hx0)
  rw [hx] at hyi
  have hz := hrem3.out l i hi hrb.out hp ht
  clear hp ht hx hrem1 hrem2 hrem3
  have hcl4 := Lib.hid (hcl.out hb256.out w4 hB4.out)
  replace hrd4 := Lib.hid hrd4
  replace hz := Lib.hid hz
  clear hcl
  go_wp2_with fail
  refine hcl4.out.mono ?_
  rintro e w5 ⟨g, cap, rfl, hg5, ho5, hb5⟩
  have hB5 := hB4.out.trans (hb5.mono hws4)
  have hrd5 := hrd4.out.below hb5
  clear hb5 hrd4 hB4 hcl4
  have hws5 := hB5.size
  have hgl := ho5.lt
  obtain ⟨bb, o, cc, hv2, _, hbb, hcell⟩ := hrd5.at (by intro e; rw [e] at hi; simp at hi)
  subst hv2
  clear hrd5
  replace hB5 := Lib.hid hB5
  rcases i with _ | k
  · have c1 : w5.cell? ⟨bb, o + 1, none⟩ = some (.int .i64 l[0].len) := by
      have := hcell 0 hi 1 (.int .i64 l[0].len) rfl
      rwa [Nat.zero_mul, Nat.add_zero] at this
    have hF := hF0.out l hrb.out hi
    have hz := hz.out
    rw [Nm.remRec_zero hi] at hz
    have hL := Nm.put_length hb256.out hF
    obtain ⟨rl, hrl⟩ : ∃ q, l[0].len = q := ⟨_, rfl⟩
    rw [hrl] at hz hL hF c1
    have hh : Calls Try.prog 40 #[.slice (some ⟨g, 0, none⟩) 256 cap, .agg #[.int .i64 0, .int .i64 rl, .string ⟨#[]⟩, .int .i64 0, .int .i64 0]] w5 (PutRes g cap (Nm.put b ⟨0, rl, ⟨[], 0, 0⟩⟩) w5) := head_rec b g cap ⟨0, rl, ⟨[], 0, 0⟩⟩ w5 ho5 hb256.out hF
    have hI1 : (0 : Int) < (l.length : Int) := by omega
    have hx1 : x = 0 := hyi
    subst hx1
    replace hh := Lib.hid hh
    replace hz := Lib.hid hz
    replace hL := Lib.hid hL
    clear hF hcell hrl ho5 hyi hx0
    go_wp2_with (go_at_call 40; (with_reducible refine hh.out.mono ?_); rintro e w9 ⟨rfl, ho9, hg9⟩)
    go_ret2
    exact outRes_some hz.out hL.out (by omega) ho9 (hB5.out.grown hg9 hB5.out.size (fun k hk => by cases hk; omega))
  have c0 := hcell k (by omega) 0
  have c1 := hcell k (by omega) 1
  have c2 := hcell k (by omega) 2
  have c3 := hcell k (by omega) 3
  have c4 := hcell k (by omega) 4
  have f1 := hcell (k + 1) hi 1
  obtain ⟨hF, hm⟩ := hF1.out l k hrb.out hi
  replace hz := hz.out
  rw [Nm.remRec_succ hi] at hz
  have hL := Nm.put_length hb256.out hF
  clear hcell
  obtain ⟨q, hq⟩ : ∃ q, l[k] = q := ⟨_, rfl⟩
  obtain ⟨q2, hq2⟩ : ∃ q, l[k + 1] = q := ⟨_, rfl⟩
  rw [hq] at c0 c1 c2 c3 c4 hz hF hm hL
  rw [hq2] at f1 hz hF hm hL
  clear hq hq2
  obtain ⟨ra, rl, ⟨rn, ri, rk⟩⟩ := q
  obtain ⟨xa, xl, ⟨xn, xi, xk⟩⟩ := q2
  replace c0 := c0 _ rfl
  replace c1 := c1 _ rfl
  replace c2 := c2 _ rfl
  replace c3 := c3 _ rfl
  replace c4 := c4 _ rfl
  replace f1 := f1 _ rfl
  dsimp only at c0 c1 c2 c3 c4 f1 hz hF hm hL
  replace c0 : w5.cell? ⟨bb, o + k * 5, none⟩ = _ := c0
  have hlow : 0 ≤ rl + xl := hF.2.2.1
  have z1 : (x == 0) = false := by rw [beq_eq_false_iff_ne]; omega
  have s1 : IntKind.i64.wrap (x - 1) = (k : Int) := by rw [IntKind.wrap_i64]; omega
  have p0 : (0 : Int) ≤ (k : Int) := by omega
  have p1 : (k : Int) < (l.length : Int) := by omega
  have p2 := Lib.hid (show 0 ≤ (k : Int) + 1 by omega)
  have p3 := Lib.hid (show (k : Int) + 1 < (l.length : Int) by omega)
  have p4 := Lib.hid (show ((k : Int) + 1).toNat = k + 1 by omega)
  have s2 := Lib.hid (show IntKind.i64.wrap (rl + xl) = rl + xl by rw [IntKind.wrap_i64]; omega)
  have f6 : ∀ ob : Obj, (w5.alloc ob).drew.cell? ⟨bb, o + (k + 1) * 5 + 1, none⟩ = some (.int .i64 xl) := fun ob => ((((Below.refl w5.heap.size w5).alloc (Nat.le_refl _) ob).drew).cell (p := ⟨bb, _, none⟩) hbb).trans f1
  have X6 := (Box.new w5 69 #[.int .i64 ra, .int .i64 rl, .string (S rn), .int .i64 ri, .int .i64 rk]).drew
  have X7 := (Box.new w5 69 #[.int .i64 ra, .int .i64 (rl + xl), .string (S rn), .int .i64 ri, .int .i64 rk]).drew
  have hB7 := (hB5.out.alloc hws5 (.cells #[.int .i64 ra, .int .i64 (rl + xl), .string (S rn), .int .i64 ri, .int .i64 rk] 69)).drew
  have ho7 : OwnB (w5.alloc (.cells #[.int .i64 ra, .int .i64 (rl + xl), .string (S rn), .int .i64 ri, .int .i64 rk] 69)).drew g cap b := ho5.alloc _
  replace f6 := Lib.hid f6
  replace X7 := Lib.hid X7
  replace hB7 := Lib.hid hB7
  replace ho7 := Lib.hid ho7
  clear ho5 hB5 f1 hyi hx0
  replace X6 := Lib.hid X6
  replace hF := Lib.hid hF
  replace hz := Lib.hid hz
  replace hL := Lib.hid hL
  go_upto_region 12 with fail
  clear c0 c1 c2 c3 c4
  have e1 := X6.out.get 1 _ rfl
  have hfz := X6.out.frozen 1
  refine wp_region_noPanic ?_
  refine wp_region_held_drew (S := fun W => W.cell? ⟨bb, o + (k + 1) * 5 + 1, none⟩ = some (.int .i64 xl)) (by kernel_rfl) (f6.out _) (fun hHeld => ?_)
  refine wpAnyH_take (i := 0) (v := ?_) rfl (by kernel_rfl) (by kernel_rfl) (by kernel_rfl) (fun _ _ _ h => h) (Or.inl ⟨rfl, ?_⟩) (by assumption) ?_
  rotate_left
  · intro W hSw
    (try dsimp only at hSw)
    go_simp
    try with_reducible rfl
  try simp only [List.getElem_toArray, List.getElem_cons_zero, List.getElem_cons_succ, Act.put, List.setIfInBounds_toArray, List.set_cons_zero, List.set_cons_succ]
  refine wpAnyH_take (i := 2) (v := ?_) rfl (by kernel_rfl) (by kernel_rfl) (by kernel_rfl) (fun _ _ _ h => h) (Or.inl ⟨rfl, ?_⟩) (by assumption) ?_
  rotate_left
  · intro W hSw
    (try dsimp only at hSw)
    go_simp
    try with_reducible rfl
  try simp only [List.getElem_toArray, List.getElem_cons_zero, List.getElem_cons_succ, Act.put, List.setIfInBounds_toArray, List.set_cons_zero, List.set_cons_succ]
  refine wpAnyH_take (i := 3) (v := ?_) rfl (by kernel_rfl) (by kernel_rfl) (by kernel_rfl) (fun _ _ _ h => h) (Or.inl ⟨rfl, ?_⟩) (by assumption) ?_
  rotate_left
  · intro W hSw
    (try dsimp only at hSw)
    go_simp
    try with_reducible rfl
  try simp only [List.getElem_toArray, List.getElem_cons_zero, List.getElem_cons_succ, Act.put, List.setIfInBounds_toArray, List.set_cons_zero, List.set_cons_succ]
  have hq0 := p2.out
  have hq1 := p3.out
  have hq2 := p4.out
  refine wpAnyH_take (i := 4) (v := ?_) rfl (by kernel_rfl) (by kernel_rfl) (by kernel_rfl) (fun _ _ _ h => h) (Or.inl ⟨rfl, ?_⟩) (by assumption) ?_
  rotate_left
  · intro W hSw
    (try dsimp only at hSw)
    go_simp
    try with_reducible rfl
  try simp only [List.getElem_toArray, List.getElem_cons_zero, List.getElem_cons_succ, Act.put, List.setIfInBounds_toArray, List.set_cons_zero, List.set_cons_succ]
  clear hq0 hq1 hq2
  refine wpAnyH_take (i := 5) (v := ?_) rfl (by kernel_rfl) (by kernel_rfl) (by kernel_rfl) (fun _ _ _ h => h) (Or.inl ⟨rfl, ?_⟩) (by assumption) ?_
  rotate_left
  · intro W hSw
    (try dsimp only at hSw)
    go_simp
    try with_reducible rfl
  try simp only [List.getElem_toArray, List.getElem_cons_zero, List.getElem_cons_succ, Act.put, List.setIfInBounds_toArray, List.set_cons_zero, List.set_cons_succ]
  refine wpAnyH_take (i := 6) (v := ?_) rfl (by kernel_rfl) (by kernel_rfl) (by kernel_rfl) (fun _ _ _ h => h) (Or.inl ⟨rfl, ?_⟩) (by assumption) ?_
  rotate_left
  · intro W hSw
    (try dsimp only at hSw)
    go_simp
    try with_reducible rfl
  try simp only [List.getElem_toArray, List.getElem_cons_zero, List.getElem_cons_succ, Act.put, List.setIfInBounds_toArray, List.set_cons_zero, List.set_cons_succ]
  refine wpAnyH_ready (rs := [1]) (by kernel_rfl) (by simp) (AllReadyH.cons rfl (fun K hK => ?_) AllReadyH.nil)
  go_simp
  refine hK.out _ _ (f6.out _) (fun hHeld => ?_)
  clear hK
  try simp only [List.getElem_toArray, List.getElem_cons_zero, List.getElem_cons_succ, Act.put, List.setIfInBounds_toArray, List.set_cons_zero, List.set_cons_succ]
  have hq0 := s2.out
  refine wpAnyH_take (i := 7) (v := ?_) rfl (by kernel_rfl) (by kernel_rfl) (by kernel_rfl) (fun _ _ _ h => h) (Or.inl ⟨rfl, ?_⟩) (by assumption) ?_
  rotate_left
  · intro W hSw
    (try dsimp only at hSw)
    go_simp
    try with_reducible rfl
  try simp only [List.getElem_toArray, List.getElem_cons_zero, List.getElem_cons_succ, Act.put, List.setIfInBounds_toArray, List.set_cons_zero, List.set_cons_succ]
  clear hq0
  refine wpAnyH_take (i := 8) (v := ?_) rfl (by kernel_rfl) (by kernel_rfl) (by kernel_rfl) (fun _ _ _ h => h) (Or.inl ⟨rfl, ?_⟩) (by assumption) ?_
  rotate_left
  · intro W hSw
    (try dsimp only at hSw)
    go_simp
    try with_reducible rfl
  try simp only [List.getElem_toArray, List.getElem_cons_zero, List.getElem_cons_succ, Act.put, List.setIfInBounds_toArray, List.set_cons_zero, List.set_cons_succ]
  refine wpAnyH_ready (rs := [9]) (by kernel_rfl) (by simp) (AllReadyH.cons rfl (fun K hK => ?_) AllReadyH.nil)
  go_simp
  refine hK.out _ _ (f6.out _) (fun hHeld => ?_)
  clear hK
  try simp only [List.getElem_toArray, List.getElem_cons_zero, List.getElem_cons_succ, Act.put, List.setIfInBounds_toArray, List.set_cons_zero, List.set_cons_succ]
  refine wpAnyH_done (by kernel_rfl) ?_ _
  (try dsimp only [NoPanic])
  have hh := head_rec b g cap ⟨ra, rl + xl, ⟨rn, ri, rk⟩⟩ _ ho7.out hb256.out hF.out
  unfold recV at hh
  dsimp only at hh
  have d0 := X7.out.get 0 _ rfl
  have d1 := X7.out.get 1 _ rfl
  have d2 := X7.out.get 2 _ rfl
  have d3 := X7.out.get 3 _ rfl
  have d4 := X7.out.get 4 _ rfl
  replace hh := Lib.hid hh
  clear ho7 X7 e1 hfz f6 hHeld
  go_wp2_with (go_at_call 40; (with_reducible refine hh.out.mono ?_); rintro e w9 ⟨rfl, ho9, hg9⟩)
  go_ret2
  exact outRes_some hz.out hL.out (by omega) ho9 (hB7.out.grown hg9 hB7.out.size (fun k hk => by cases hk; omega))
end Go.Proofs.Ytmlgjmcenjbbeaa
