/- The reference's Add. -/
import Derived.Test.YtmlgjmcenjbbeaaAs
namespace Go.Proofs.Ytmlgjmcenjbbeaa
open Go.RowKit
set_option maxRecDepth 100000 in
set_option maxHeartbeats 8000000 in
theorem addr_any (b : List UInt8) (e : Ent) (v : Value) (w : World) (hr : RdB w v b) : Calls Try.prog 29 #[v, entV e] w (OutRes (Nm.add b e) w) := by
  have hE1 := @Nm.add_err b e
  have hE2 := @Nm.add_dir b e
  have hE3 := fun l => @Nm.add_twice b e l
  have hE4 := fun l => @Nm.add_full b e l
  have hE5 := fun l k => @Nm.add_some b e l k
  have hfits := fun (r : Rec) (a : Nat) (hb : b.length = 256) (h : Nm.one b a = some r) (he : Nm.chk e = 0) (hh : Nm.hasRoom e.name r = true) => Nm.fits_of hb h he hh
  have hall := Nm.recs_getD b
  have hn48 : Nm.chk e = 0 → e.name.length ≤ 48 := fun h => (Nm.name_ok (Nm.chk_ok h).1).2.1
  have hchk := fun W => checkr_any e W
  have hrecs := fun (W : World) (hW : Below w.heap.size w W) => recordsr_any b v W (hr.below hW)
  have hfind := fun (W : World) (hW : Below w.heap.size w W) => findr_any b e.name v W (hr.below hW)
  have hfn := fun l (h : Nm.recs b = some l) => (show (Nm.findIn (Nm.ents b) e.name).isSome = l.any (Nm.isNamed e.name) by rw [← Nm.find_named]; unfold Nm.ents; rw [h]; rfl)
  have hrv := fun (W : World) (hW : Below w.heap.size w W) => hr.below hW
  clear hr
  obtain ⟨en, ei, ek⟩ := e
  have hB1 := (Below.refl _ w).alloc (Nat.le_refl _) (.cells #[.string (S en), .int .i64 ei, .int .i64 ek] 24)
  have bx1 := Box.new w 24 #[.string (S en), .int .i64 ei, .int .i64 ek]
  unfold entV at hchk ⊢
  unfold FindRes at hfind
  dsimp only at *
  obtain ⟨c, hc⟩ : ∃ c, Nm.chk ⟨en, ei, ek⟩ = c := ⟨_, rfl⟩
  rw [hc] at hE1 hE2 hE3 hE4 hE5 hfits hn48 hchk
  clear hc
  obtain ⟨is, his⟩ : ∃ is, (Nm.findIn (Nm.ents b) en).isSome = is := ⟨_, rfl⟩
  obtain ⟨fe, hfe⟩ : ∃ fe, (Nm.findIn (Nm.ents b) en).getD zeroEnt = fe := ⟨_, rfl⟩
  rw [his, hfe] at hfind
  rw [his] at hfn
  clear his hfe
  obtain ⟨fn, fi, fk⟩ := fe
  unfold entV at hfind
  dsimp only at hfind
  replace hE1 := Lib.hid hE1
  replace hE2 := Lib.hid hE2
  replace hE3 := Lib.hid hE3
  replace hE4 := Lib.hid hE4
  replace hE5 := Lib.hid hE5
  replace hfits := Lib.hid hfits
  replace hn48 := Lib.hid hn48
  replace hchk := Lib.hid hchk
  replace hrecs := Lib.hid hrecs
  replace hfind := Lib.hid hfind
  replace hfn := Lib.hid hfn
  replace hrv := Lib.hid hrv
  replace hB1 := Lib.hid hB1
  replace bx1 := Lib.hid bx1
  replace hall := Lib.hid hall
  go_enter Try.func29, Try.ntmps29
  go_wp2_with fail
  refine (hchk.out _).mono ?_
  rintro e w2 ⟨rfl, hb⟩
  have hB2 := hB1.out.trans (hb.mono hB1.out.size)
  have be2 := bx1.out.below hb
  clear hb hB1 bx1 hchk
  replace hB2 := Lib.hid hB2
  by_cases hc0 : c = 0
  case neg =>
    have n0 : (c != 0) = true := by simpa using hc0
    have hx := Lib.hid (hE1.out hc0)
    clear hc0
    replace be2 := Lib.hid be2
    go_wp2_with fail
    go_ret2
    exact outRes_none hx.out hB2.out
  have n0 : (c != 0) = false := by simpa using hc0
  have hn := hn48.out hc0
  replace hc0 := Lib.hid hc0
  have h3 := hrecs.out w2 hB2.out
  rcases hrb : Nm.recs b with _ | l
  · have hx := Lib.hid (hE2.out hc0.out hrb)
    rw [hrb] at h3
    replace h3 := Lib.hid h3
    replace be2 := Lib.hid be2
    go_wp2_with (go_at_call 36; refine h3.out.mono ?_; rintro e w3 ⟨u, rfl, _, hb3⟩)
    go_ret2
    exact outRes_none hx.out (hB2.out.trans (hb3.mono hB2.out.size))
  rw [hrb] at h3 hall
  have hl32 : l.length ≤ 32 := hall.out.2
  have hb256 := Lib.hid (Nm.recs_len hrb)
  replace hrb := Lib.hid hrb
  unfold RecsRes at h3
  replace h3 := Lib.hid h3
  go_wp2_with (go_at_call 36; refine h3.out.mono ?_; rintro e w3 ⟨u, rfl, hown3, hb3⟩; have hrd3 := RdC.of_own recL_len hown3; replace hrd3 : RdR w3 u l := hrd3; have hB3 := hB2.out.trans (hb3.mono hB2.out.size); have hfd := Lib.hid (hfind.out w3 hB3); have be3 := be2.below hb3; have d0 := be3.get 0 _ rfl; have d1 := be3.get 1 _ rfl; have d2 := be3.get 2 _ rfl; replace hB3 := Lib.hid hB3; replace hrd3 := Lib.hid hrd3; replace be3 := Lib.hid be3; refine Hid.out ?_)
  refine Lib.hid ?_
  go_wp2_with fail
  refine hfd.out.mono ?_
  rintro e w4 ⟨rfl, hb4⟩
  have hB4 := hB3.out.trans (hb4.mono hB3.out.size)
  have be4 := be3.out.below hb4
  have hrd4 : RdR w4 u l := hrd3.out.below hb4
  clear hb4 hown3 hb3 d0 d1 d2 hfd hrd3 be3 hB3 be2 hB2 h3 hrecs hfind
  replace hB4 := Lib.hid hB4
  replace be4 := Lib.hid be4
  have hnm := hfn.out l hrb.out
  rcases is with _ | _
  case true =>
    have hx := Lib.hid (hE3.out l hc0.out hrb.out hnm.symm)
    replace hrd4 := Lib.hid hrd4
    clear hnm
    go_wp2_with fail
    go_ret2
    exact outRes_none hx.out (hB4.out.alloc hB4.out.size _)
  obtain ⟨la, lc, hu⟩ := hrd4.len
  subst hu
  have hws4 := hB4.out.size
  have hB6 := hB4.out.alloc hws4 (.cells #[.string (S fn), .int .i64 fi, .int .i64 fk] 24)
  have be6 := be4.out.alloc (.cells #[.string (S fn), .int .i64 fi, .int .i64 fk] 24)
  have hrd6 := hrd4.below ((Below.refl w4.heap.size w4).alloc (Nat.le_refl _) (.cells #[.string (S fn), .int .i64 fi, .int .i64 fk] 24))
  obtain ⟨w6, hw6⟩ : ∃ w6, w4.alloc (.cells #[.string (S fn), .int .i64 fi, .int .i64 fk] 24) = w6 := ⟨_, rfl⟩
  rw [hw6] at hB6 be6 hrd6
  clear hrd4 hB4 be4 hws4
  replace hrd6 := Lib.hid hrd6
  replace be6 := Lib.hid be6
  replace hnm := Lib.hid hnm
  have hws6 := hB6.size
  have hel := be6.out.lt
  replace hB6 := Lib.hid hB6
  go_wp2_with fail
  clear hw6
  go_loopw [0, 11] (fun b0 i wr => ∃ k : Nat, k ≤ l.length ∧ b0 = v ∧ i = .int .i64 k ∧ (l.take k).any (Nm.hasRoom en) = false ∧ Below w6.heap.size w6 wr) (fun _ i _ => l.length - (intOf i).toNat)
  case atStart => exact ⟨0, by omega, rfl, rfl, rfl, Below.refl _ _⟩
  case round =>
    obtain ⟨k, hk, rfl, rfl, hF, hW⟩ := hrel
    by_cases hlt : k < l.length
    case neg =>
      have hk' : k = l.length := by omega
      subst hk'
      rw [List.take_length] at hF
      have hfin := Lib.hid (hE4.out l hc0.out hrb.out hnm.out.symm hF)
      replace hW := Lib.hid hW
      clear hF
      go_wp2_with fail
      go_ret2
      exact outRes_none hfin.out (hB6.out.trans (hW.out.mono hws6))
    have hsz := hW.size
    obtain ⟨bb, o, cc, hv, _, hbb, hcell⟩ := (hrd6.out.below hW).at (by intro e; rw [e] at hlt; simp at hlt)
    cases hv
    have c0 := hcell k hlt 0
    have c1 := hcell k hlt 1
    have c2 := hcell k hlt 2
    have c3 := hcell k hlt 3
    have c4 := hcell k hlt 4
    clear hcell
    obtain ⟨a, ha⟩ := hall.out.1 l[k] (List.getElem_mem hlt)
    have hir := Nm.one_is ha
    have hir3 := hir.fits
    have hir8 := hir.len8
    have hir48 := hir.name48
    rw [hb256.out] at hir3
    have hT := Nm.any_take_r (Nm.hasRoom en) l k hlt hF
    have hH := hE5.out l k hc0.out hrb.out hnm.out.symm hlt
    have hfr := fun W => freer_any l[k] W (by omega) (by omega)
    have how := fun W => ownr_any l[k] W (by omega)
    have hfit := hfits.out l[k] a hb256.out ha hc0.out
    have hnd := fun W => needr_any en W (by omega)
    have hbe := be6.out.below hW
    obtain ⟨q, hq⟩ : ∃ q, l[k] = q := ⟨_, rfl⟩
    rw [hq] at c0 c1 c2 c3 c4 hir3 hir8 hir48 hT hH hfr how hfit
    clear hq hir ha
    have hdec : Nm.hasRoom en q = decide ((Nm.need en : Int) ≤ Nm.free q) := rfl
    have hfrd : Nm.free q = if q.e.ino = 0 then q.len else q.len - Nm.own q := rfl
    have hF0 := Lib.hid hF
    have hara : Nm.addRec b q ⟨en, ei, ek⟩ = if q.e.ino = 0 then Nm.put b ⟨q.at_, q.len, ⟨en, ei, ek⟩⟩ else Nm.put (Nm.put b ⟨q.at_, Nm.own q, q.e⟩) ⟨q.at_ + Nm.own q, q.len - Nm.own q, ⟨en, ei, ek⟩⟩ := rfl
    have ho8 := (Nm.own_ge q).1
    obtain ⟨F, hFq⟩ : ∃ F, Nm.free q = F := ⟨_, rfl⟩
    obtain ⟨ow, how'⟩ : ∃ ow, Nm.own q = ow := ⟨_, rfl⟩
    obtain ⟨N, hN⟩ : ∃ N, Nm.need en = N := ⟨_, rfl⟩
    rw [hFq] at hfr hdec hfrd
    rw [how'] at how hfrd hara ho8 hfit
    rw [hN] at hnd hdec
    clear hFq how' hN
    obtain ⟨ra, rl, ⟨rn, ri, rk⟩⟩ := q
    unfold recV at hfr how
    dsimp only at hfr how hfrd hara hfit hir3 hir8 hir48
    replace c0 := c0 _ rfl
    replace c1 := c1 _ rfl
    replace c2 := c2 _ rfl
    replace c3 := c3 _ rfl
    replace c4 := c4 _ rfl
    dsimp only at c0 c1 c2 c3 c4
    replace c0 : wr.cell? ⟨bb, o + k * 5, none⟩ = _ := c0
    have hI0 : (0 : Int) ≤ (k : Int) := by omega
    have hI1 : (k : Int) < (l.length : Int) := by omega
    have X7 := Box.new wr 62 #[.int .i64 ra, .int .i64 rl, .string (S rn), .int .i64 ri, .int .i64 rk]
    have be7 := hbe.alloc (.cells #[.int .i64 ra, .int .i64 rl, .string (S rn), .int .i64 ri, .int .i64 rk] 62)
    have hB7 := hW.alloc hsz (.cells #[.int .i64 ra, .int .i64 rl, .string (S rn), .int .i64 ri, .int .i64 rk] 62)
    replace X7 := Lib.hid X7
    replace be7 := Lib.hid be7
    replace hB7 := Lib.hid hB7
    replace hT := Lib.hid hT
    replace hH := Lib.hid hH
    replace hfr := Lib.hid hfr
    replace how := Lib.hid how
    replace hfit := Lib.hid hfit
    replace hnd := Lib.hid hnd
    replace hdec := Lib.hid hdec
    replace hfrd := Lib.hid hfrd
    replace hara := Lib.hid hara
    replace ho8 := Lib.hid ho8
    clear hbe hF
    go_upto_region 14 with fail
    clear c0 c1 c2 c3 c4
    obtain ⟨W7, hW7⟩ : ∃ W7, wr.alloc (.cells #[.int .i64 ra, .int .i64 rl, .string (S rn), .int .i64 ri, .int .i64 rk] 62) = W7 := ⟨_, rfl⟩
    rw [hW7] at X7 be7 hB7 ⊢
    clear hW7
    have hS := show ∀ W : World, Below W7.heap.size W7 W → (fun W => (W.cell? ⟨wr.heap.size, 0, none⟩ = some (.int .i64 ra) ∧ W.cell? ⟨wr.heap.size, 1, none⟩ = some (.int .i64 rl) ∧ W.cell? ⟨wr.heap.size, 2, none⟩ = some (.string (S rn)) ∧ W.cell? ⟨wr.heap.size, 3, none⟩ = some (.int .i64 ri) ∧ W.cell? ⟨wr.heap.size, 4, none⟩ = some (.int .i64 rk)) ∧ W.cell? ⟨w.heap.size, 0, none⟩ = some (.string (S en))) W from fun W hW => ⟨⟨(X7.out.below hW).get 0 _ rfl, (X7.out.below hW).get 1 _ rfl, (X7.out.below hW).get 2 _ rfl, (X7.out.below hW).get 3 _ rfl, (X7.out.below hW).get 4 _ rfl⟩, (be7.out.below hW).get 0 _ rfl⟩
    replace hS := Lib.hid hS
    refine wp_region_noPanic ?_
    refine wp_region_held_drew (S := fun W => (W.cell? ⟨wr.heap.size, 0, none⟩ = some (.int .i64 ra) ∧ W.cell? ⟨wr.heap.size, 1, none⟩ = some (.int .i64 rl) ∧ W.cell? ⟨wr.heap.size, 2, none⟩ = some (.string (S rn)) ∧ W.cell? ⟨wr.heap.size, 3, none⟩ = some (.int .i64 ri) ∧ W.cell? ⟨wr.heap.size, 4, none⟩ = some (.int .i64 rk)) ∧ W.cell? ⟨w.heap.size, 0, none⟩ = some (.string (S en))) (by kernel_rfl) (hS.out _ ((Below.refl W7.heap.size W7).drew)) (fun hHeld => ?_)
    refine wpAnyH_take (i := 0) (v := ?_) rfl (by kernel_rfl) (by kernel_rfl) (by kernel_rfl) (fun _ _ _ h => h) (Or.inl ⟨rfl, ?_⟩) (by assumption) ?_
    rotate_left
    · intro W hSw
      (try dsimp only at hSw)
      go_simp
      try with_reducible rfl
    try simp only [List.getElem_toArray, List.getElem_cons_zero, List.getElem_cons_succ, Act.put, List.setIfInBounds_toArray, List.set_cons_zero, List.set_cons_succ]
    refine wpAnyH_take (i := 2) (v := ?_) rfl (by kernel_rfl) (by kernel_rfl) (by kernel_rfl) (fun _ _ _ h => h) (Or.inl ⟨rfl, ?_⟩) (by assumption) ?_
    rotate_left
    · intro W hSw
      (try dsimp only at hSw)
      go_simp
      try with_reducible rfl
    try simp only [List.getElem_toArray, List.getElem_cons_zero, List.getElem_cons_succ, Act.put, List.setIfInBounds_toArray, List.set_cons_zero, List.set_cons_succ]
    refine wpAnyH_take (i := 3) (v := ?_) rfl (by kernel_rfl) (by kernel_rfl) (by kernel_rfl) (fun _ _ _ h => h) (Or.inl ⟨rfl, ?_⟩) (by assumption) ?_
    rotate_left
    · intro W hSw
      (try dsimp only at hSw)
      go_simp
      try with_reducible rfl
    try simp only [List.getElem_toArray, List.getElem_cons_zero, List.getElem_cons_succ, Act.put, List.setIfInBounds_toArray, List.set_cons_zero, List.set_cons_succ]
    refine wpAnyH_ready (rs := [1]) (by kernel_rfl) (by simp) (AllReadyH.cons rfl (fun K hK => ?_) AllReadyH.nil)
    go_simp
    (with_reducible refine (hfr.out _).mono ?_)
    rintro e w8 ⟨rfl, hb8⟩
    refine hK.out _ _ (hS.out _ (below_undrew hb8)) (fun hHeld => ?_)
    clear hK
    try simp only [List.getElem_toArray, List.getElem_cons_zero, List.getElem_cons_succ, Act.put, List.setIfInBounds_toArray, List.set_cons_zero, List.set_cons_succ]
    refine wpAnyH_ready (rs := [4]) (by kernel_rfl) (by simp) (AllReadyH.cons rfl (fun K hK => ?_) AllReadyH.nil)
    go_simp
    (with_reducible refine (hnd.out _).mono ?_)
    rintro e w' ⟨rfl, hw⟩
    obtain rfl := hw.symm
    refine hK.out _ _ (hS.out _ (below_undrew hb8)) (fun hHeld => ?_)
    clear hK
    try simp only [List.getElem_toArray, List.getElem_cons_zero, List.getElem_cons_succ, Act.put, List.setIfInBounds_toArray, List.set_cons_zero, List.set_cons_succ]
    refine wpAnyH_take (i := 5) (v := ?_) rfl (by kernel_rfl) (by kernel_rfl) (by kernel_rfl) (fun _ _ _ h => h) (Or.inl ⟨rfl, ?_⟩) (by assumption) ?_
    rotate_left
    · intro W hSw
      (try dsimp only at hSw)
      go_simp
      try with_reducible rfl
    try simp only [List.getElem_toArray, List.getElem_cons_zero, List.getElem_cons_succ, Act.put, List.setIfInBounds_toArray, List.set_cons_zero, List.set_cons_succ]
    refine wpAnyH_done (by kernel_rfl) ?_ _
    (try dsimp only [NoPanic])
    have hb8' := below_undrew hb8
    have X8 := X7.out.below hb8'
    have be8 := be7.out.below hb8'
    have hB8 := hB7.out.trans (hb8'.mono hB7.out.size)
    clear hb8 hb8' X7 be7 hB7 hS hHeld
    have d0 := X8.get 0 _ rfl
    have d1 := X8.get 1 _ rfl
    have d2 := X8.get 2 _ rfl
    have d3 := X8.get 3 _ rfl
    have d4 := X8.get 4 _ rfl
    have e0 := be8.get 0 _ rfl
    have e1 := be8.get 1 _ rfl
    have e2 := be8.get 2 _ rfl
    replace X8 := Lib.hid X8
    replace be8 := Lib.hid be8
    by_cases hFN : (N : Int) ≤ F
    case neg =>
      have t1 : F < (N : Int) := by omega
      have hT' := Lib.hid (hT.out (by rw [hdec.out]; exact decide_eq_false hFN))
      replace hB8 := Lib.hid hB8
      clear hFN
      go_wp2_with fail
      go_roundw
      case rel => exact ⟨k + 1, by omega, rfl, by go_num, hT'.out, hB8.out⟩
      case measure => simp [intOf]; omega
    have t1 : ¬ F < (N : Int) := by omega
    have hroom := hdec.out.trans (decide_eq_true hFN)
    have hz := hH.out hroom hF0.out
    have hfit' := hfit.out hroom
    have hBw := hB6.out.trans (hB8.mono hws6)
    have hrv8 := hrv.out w8 hBw
    rw [hara.out] at hz
    by_cases hri : ri = 0
    · rw [if_pos hri] at hz
      have hh := put_rec b u0 ⟨ra, rl, ⟨en, ei, ek⟩⟩ w8 hrv8 hb256.out (hfit'.1 hri)
      unfold recV at hh
      dsimp only at hh
      have z : (ri == 0) = true := by simpa using hri
      replace hh := Lib.hid hh
      replace hz := Lib.hid hz
      replace hBw := Lib.hid hBw
      clear hB8 hFN hfit' hrv8 hri
      go_wp2_with (go_at_call 41; (with_reducible refine hh.out.mono ?_); intro e w9 hb9; have hb9' := hb9; obtain ⟨g, cap, rfl, _⟩ := hb9')
      go_ret2
      exact blk_out hz.out hBw.out hb9 rfl
    · rw [if_neg hri] at hz
      obtain ⟨f1, f2⟩ := hfit'.2 hri
      have hp1 := put_rec b u0 ⟨ra, ow, ⟨rn, ri, rk⟩⟩
      have hL1 := Nm.put_length hb256.out f1
      obtain ⟨b1, hb1⟩ : ∃ b1, Nm.put b ⟨ra, ow, ⟨rn, ri, rk⟩⟩ = b1 := ⟨_, rfl⟩
      rw [hb1] at hz hp1 hL1
      clear hb1
      have g1 := f1.1
      have g2 := f1.2.1
      have g3 := f2.2.2.1
      have g4 := f2.2.1
      have g5 := ho8.out
      dsimp only at g1 g2 g3 g4
      have s1 : IntKind.i64.wrap (ra + ow) = ra + ow := by rw [IntKind.wrap_i64]; omega
      have s2 : IntKind.i64.wrap (rl - ow) = rl - ow := by rw [IntKind.wrap_i64]; omega
      have z : (ri == 0) = false := by simpa using hri
      unfold recV at hp1
      dsimp only at hp1
      replace hp1 := Lib.hid hp1
      replace hz := Lib.hid hz
      replace hrv8 := Lib.hid hrv8
      replace hBw := Lib.hid hBw
      replace f1 := Lib.hid f1
      replace f2 := Lib.hid f2
      clear hB8 hFN hfit' hri g1 g2 g3 g4 g5
      go_wp2_with fail
      refine (how.out w8).mono ?_
      rintro e w9 ⟨rfl, hb9⟩
      have hB9 := hBw.out.trans (hb9.mono hBw.out.size)
      have X9 := X8.out.below hb9
      have be9 := be8.out.below hb9
      have hq1 := hp1.out w9 (hrv8.out.below hb9) hb256.out f1.out
      clear hb9 X8 be8 d0 d1 d2 d3 d4 e0 e1 e2 hBw hrv8
      have d0 := X9.get 0 _ rfl
      have d1 := X9.get 1 _ rfl
      have d2 := X9.get 2 _ rfl
      have d3 := X9.get 3 _ rfl
      have d4 := X9.get 4 _ rfl
      replace X9 := Lib.hid X9
      replace be9 := Lib.hid be9
      replace hB9 := Lib.hid hB9
      replace hq1 := Lib.hid hq1
      go_wp2_with fail
      refine hq1.out.mono ?_
      rintro e w10 ⟨g, cap, rfl, _, ho10, hb10⟩
      have hrd10 := ho10.rd
      rw [hL1] at hrd10 ⊢
      have hB10 := hB9.out.trans (hb10.mono hB9.out.size)
      have X10 := X9.out.below hb10
      have be10 := be9.out.below hb10
      have hq2 := put_rec b1 (.slice (some ⟨g, 0, none⟩) 256 cap) ⟨ra + ow, rl - ow, ⟨en, ei, ek⟩⟩ w10 hrd10 hL1 f2.out
      unfold recV at hq2
      dsimp only at hq2
      clear hb10 X9 be9 d0 d1 d2 d3 d4 hB9 ho10 hrd10
      have d0 := X10.get 0 _ rfl
      have d1 := X10.get 1 _ rfl
      have e0 := be10.get 0 _ rfl
      have e1 := be10.get 1 _ rfl
      have e2 := be10.get 2 _ rfl
      replace hB10 := Lib.hid hB10
      replace hq2 := Lib.hid hq2
      clear X10 be10
      go_wp2_with fail
      refine hq2.out.mono ?_
      intro e w11 hb11
      have hb11' := hb11
      obtain ⟨g', cap', rfl, _⟩ := hb11'
      go_wp2_with fail
      go_ret2
      exact blk_out hz.out hB10.out hb11 rfl
end Go.Proofs.Ytmlgjmcenjbbeaa
