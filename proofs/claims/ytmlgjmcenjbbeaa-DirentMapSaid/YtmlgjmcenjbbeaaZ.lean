/- dirent.Add. -/
import Derived.Test.YtmlgjmcenjbbeaaY
namespace Go.Proofs.Ytmlgjmcenjbbeaa
open Go.RowKit
namespace Nm
def addRec (b : List UInt8) (r : Rec) (e : Ent) : List UInt8 :=
  if r.e.ino = 0 then put b ⟨r.at_, r.len, e⟩ else put (put b ⟨r.at_, own r, r.e⟩) ⟨r.at_ + own r, r.len - own r, e⟩
/-- A block with an entry more, or an error. -/
def add (b : List UInt8) (e : Ent) : Option (List UInt8) × Int :=
  if chk e ≠ 0 then (none, chk e) else
  match recs b with
  | none => (none, 160)
  | some l => if l.any (isNamed e.name) then (none, 5) else
    match l[l.findIdx (hasRoom e.name)]? with
    | some r => (some (addRec b r e), 0)
    | none => (none, 6)
theorem need_ge (n : List UInt8) : n.length + 8 ≤ need n := by unfold need; omega
theorem own_ge (r : Rec) : 8 ≤ own r ∧ (r.e.ino ≠ 0 → (r.e.name.length : Int) + 8 ≤ own r) := by
  have := need_ge r.e.name
  unfold own
  split
  · exact ⟨by omega, fun h => absurd ‹_› h⟩
  · exact ⟨by omega, fun _ => by omega⟩
theorem fits_of {b : List UInt8} {a : Nat} {r : Rec} {e : Ent} (hb : b.length = 256) (h : one b a = some r) (he : chk e = 0) (hr : hasRoom e.name r = true) :
    (r.e.ino = 0 → Fits ⟨r.at_, r.len, e⟩) ∧ (r.e.ino ≠ 0 → Fits ⟨r.at_, own r, r.e⟩ ∧ Fits ⟨r.at_ + own r, r.len - own r, e⟩) := by
  have hi := one_is h
  have h1 := hi.at_
  have h2 := hi.len8
  have h3 := hi.fits
  have h4 := hi.own
  have h5 := hi.name8
  obtain ⟨c1, c2, c3, c4⟩ := chk_ok he
  have hn := (name_ok c1).2.1
  have hg := need_ge e.name
  have ho := own_ge r
  unfold hasRoom free at hr
  rw [hb] at h3
  have hr' := of_decide_eq_true hr
  constructor
  · intro h0
    rw [if_pos h0] at hr'
    refine ⟨?_, ?_, ?_, ?_, ?_, ?_, ?_, ?_⟩ <;> dsimp only <;> omega
  · intro h0
    rw [if_neg h0] at hr'
    obtain ⟨d1, d2, d3, d4⟩ := chk_ok (hi.some_ h0)
    have ho2 := ho.2 h0
    refine ⟨⟨?_, ?_, ?_, ?_, ?_, ?_, ?_, ?_⟩, ⟨?_, ?_, ?_, ?_, ?_, ?_, ?_, ?_⟩⟩ <;> dsimp only <;> omega
theorem addRec_len {b : List UInt8} {a : Nat} {r : Rec} {e : Ent} (hb : b.length = 256) (h : one b a = some r) (he : chk e = 0) (hr : hasRoom e.name r = true) : (addRec b r e).length = 256 := by
  obtain ⟨h1, h2⟩ := fits_of hb h he hr
  unfold addRec
  split
  · rename_i h0; exact put_length hb (h1 h0)
  · rename_i h0; exact put_length (put_length hb (h2 h0).1) (h2 h0).2
end Nm
theorem clone256 {b : List UInt8} {v : Value} {W : World} (h : Calls Try.prog 28 #[v] W (BlkRes b W)) (hb : b.length = 256) : Calls Try.prog 28 #[v] W fun e w' => ∃ g cap, e = .returned (.slice (some ⟨g, 0, none⟩) 256 cap) ∧ W.heap.size ≤ g ∧ OwnB w' g cap b ∧ Below W.heap.size W w' := h.mono (by
  rintro e w' ⟨g, cap, rfl, h⟩
  exact ⟨g, cap, by rw [hb], h⟩)
theorem below_undrew {W W' : World} (h : Below W.drew.heap.size W.drew W') : Below W.heap.size W W' := ⟨h.os, h.tape, h.output, h.size, h.block⟩
/-- Behind the clone: the block's copy, the record in a box. -/
def AddMid (w : World) (b : List UInt8) (r : Rec) (e : Ent) (o p : Value) (wx : World) : Prop :=
  ∃ g cap B, o = .slice (some ⟨g, 0, none⟩) 256 cap ∧ p = .pointer (some ⟨B, 0, none⟩) ∧ OwnB wx g cap b ∧ Box wx B 69 #[.int .i64 r.at_, .int .i64 r.len, .string (S r.e.name), .int .i64 r.e.ino, .int .i64 r.e.kind] ∧ B ≠ g ∧ w.heap.size < B ∧ w.heap.size < g ∧ Box wx w.heap.size 24 #[.string (S e.name), .int .i64 e.ino, .int .i64 e.kind] ∧ Below w.heap.size w wx
set_option maxRecDepth 100000 in
set_option maxHeartbeats 8000000 in
theorem add_any (b : List UInt8) (e : Ent) (v : Value) (w : World) (hr : RdB w v b) : Calls Try.prog 26 #[v, entV e] w (OutRes (Nm.add b e) w) := by
  have hfits := fun (r : Rec) (a : Nat) (hb : b.length = 256) (h : Nm.one b a = some r) (he : Nm.chk e = 0) (hh : Nm.hasRoom e.name r = true) => Nm.fits_of hb h he hh
  have hlen := fun (r : Rec) (a : Nat) (hb : b.length = 256) (h : Nm.one b a = some r) (he : Nm.chk e = 0) (hh : Nm.hasRoom e.name r = true) => Nm.addRec_len hb h he hh
  have hadd1 : Nm.chk e ≠ 0 → Nm.add b e = (none, Nm.chk e) := fun h => by unfold Nm.add; rw [if_pos h]
  have hadd2 : Nm.chk e = 0 → Nm.recs b = none → Nm.add b e = (none, 160) := fun h h2 => by unfold Nm.add; rw [if_neg (by simpa using h), h2]
  have hadd3 : ∀ l, Nm.chk e = 0 → Nm.recs b = some l → l.any (Nm.isNamed e.name) = true → Nm.add b e = (none, 5) := fun l h h2 h3 => by unfold Nm.add; rw [if_neg (by simpa using h), h2]; simp only; rw [if_pos h3]
  have hadd4 : ∀ l, Nm.chk e = 0 → Nm.recs b = some l → l.any (Nm.isNamed e.name) = false → Nm.idx (Nm.hasRoom e.name) l < 0 → Nm.add b e = (none, 6) := fun l h h2 h3 h4 => by
    unfold Nm.add; rw [if_neg (by simpa using h), h2]; simp only; rw [if_neg (by rw [h3]; simp)]
    have := Nm.idx_none _ _ h4
    rw [List.getElem?_eq_none]
    rw [List.findIdx_eq_length.2 (fun x hx => by simpa using List.any_eq_false.1 this x hx)]
    exact Nat.le_refl _
  have hadd5 : ∀ l (k : Nat) (hk : k < l.length), Nm.chk e = 0 → Nm.recs b = some l → l.any (Nm.isNamed e.name) = false → Nm.hasRoom e.name l[k] = true → (l.take k).any (Nm.hasRoom e.name) = false → Nm.add b e = (some (Nm.addRec b l[k] e), 0) := fun l k hk h h2 h3 h4 h5 => by
    unfold Nm.add; rw [if_neg (by simpa using h), h2]; simp only; rw [if_neg (by rw [h3]; simp)]
    have : l.findIdx (Nm.hasRoom e.name) = k := by
      rw [List.findIdx_eq hk]
      exact ⟨h4, fun j hj => by
        have := List.any_eq_false.1 h5 l[j] (by rw [List.mem_take_iff_getElem]; exact ⟨j, by omega, rfl⟩)
        simpa using this⟩
    rw [this, List.getElem?_eq_getElem hk]
  have hall := Nm.recs_getD b
  have hen : Nm.chk e = 0 → e.name.length ≤ 1000000 := fun h => by have := (Nm.name_ok (Nm.chk_ok h).1).2.1; omega
  have hchk := fun W => check_any e W
  have hrecs := fun (W : World) (hW : Below w.heap.size w W) => records_any b v W (hr.below hW)
  have hcl := fun (hb : b.length = 256) (W : World) (hW : Below w.heap.size w W) => clone256 (clone_any b v W (hr.below hW) hb) hb
  obtain ⟨aa, cv, hv⟩ := hr.len
  clear hr
  obtain ⟨en, ei, ek⟩ := e
  have hB1 := (Below.refl _ w).alloc (Nat.le_refl _) (.cells #[.string (S en), .int .i64 ei, .int .i64 ek] 24)
  have bx1 := Box.new w 24 #[.string (S en), .int .i64 ei, .int .i64 ek]
  unfold entV at hchk ⊢
  dsimp only at *
  obtain ⟨c, hc⟩ : ∃ c, Nm.chk ⟨en, ei, ek⟩ = c := ⟨_, rfl⟩
  rw [hc] at hfits hlen hadd1 hadd2 hadd3 hadd4 hadd5 hchk hen
  clear hc
  replace hfits := Lib.hid hfits
  replace hlen := Lib.hid hlen
  replace hadd1 := Lib.hid hadd1
  replace hadd2 := Lib.hid hadd2
  replace hadd3 := Lib.hid hadd3
  replace hadd4 := Lib.hid hadd4
  replace hadd5 := Lib.hid hadd5
  replace hall := Lib.hid hall
  replace hen := Lib.hid hen
  replace hchk := Lib.hid hchk
  replace hrecs := Lib.hid hrecs
  replace hcl := Lib.hid hcl
  replace hB1 := Lib.hid hB1
  replace bx1 := Lib.hid bx1
  replace hv := Lib.hid hv
  go_enter Try.func26, Try.ntmps26
  go_wp2_with fail
  refine (hchk.out _).mono ?_
  rintro e w2 ⟨rfl, hb⟩
  have hB2 := hB1.out.trans (hb.mono hB1.out.size)
  have be2 := bx1.out.below hb
  clear hb hB1 bx1 hchk
  replace hB2 := Lib.hid hB2
  by_cases hc0 : c = 0
  case neg =>
    have n0 : (c != 0) = true := by simpa using hc0
    have hx := Lib.hid (hadd1.out hc0)
    clear hc0
    replace be2 := Lib.hid be2
    go_wp2_with fail
    go_ret2
    exact outRes_none hx.out hB2.out
  have n0 : (c != 0) = false := by simpa using hc0
  replace hc0 := Lib.hid hc0
  have h3 := hrecs.out w2 hB2.out
  rcases hrb : Nm.recs b with _ | l
  · have hx := Lib.hid (hadd2.out hc0.out hrb)
    rw [hrb] at h3
    replace h3 := Lib.hid h3
    replace be2 := Lib.hid be2
    go_wp2_with (go_at_call 39; refine h3.out.mono ?_; rintro e w3 ⟨u, rfl, _, hb3⟩)
    go_ret2
    exact outRes_none hx.out (hB2.out.trans (hb3.mono hB2.out.size))
  rw [hrb] at h3 hall
  have hl32 : l.length ≤ 32 := hall.out.2
  have hb256 := Lib.hid (Nm.recs_len hrb)
  replace hrb := Lib.hid hrb
  unfold RecsRes at h3
  replace h3 := Lib.hid h3
  go_wp2_with (go_at_call 39; refine h3.out.mono ?_; rintro e w3 ⟨u, rfl, hown3, hb3⟩; have hrd3 := RdC.of_own recL_len hown3; replace hrd3 : RdR w3 u l := hrd3; have hpl := Lib.hid (place_any l en u w3 hrd3 (by omega)); have hB3 := hB2.out.trans (hb3.mono hB2.out.size); have be3 := be2.below hb3; have d0 := be3.get 0 _ rfl; have d1 := be3.get 1 _ rfl; have d2 := be3.get 2 _ rfl; replace hB3 := Lib.hid hB3; replace hrd3 := Lib.hid hrd3; replace be3 := Lib.hid be3; refine Hid.out ?_)
  refine Lib.hid ?_
  go_wp2_with fail
  refine hpl.out.mono ?_
  rintro e w4 ⟨rfl, hb4⟩
  have hB4 := hB3.out.trans (hb4.mono hB3.out.size)
  have be4 := be3.out.below hb4
  have hrd4 : RdR w4 u l := hrd3.out.below hb4
  clear hb4 hown3 hb3 d0 d1 d2 hpl hrd3 be3 hB3 be2 hB2 h3 hrecs
  have d0 := be4.get 0 _ rfl
  have d1 := be4.get 1 _ rfl
  have d2 := be4.get 2 _ rfl
  have hws4 := hB4.size
  have hlt4 := be4.lt
  replace hB4 := Lib.hid hB4
  obtain ⟨x, hx⟩ : ∃ x, Nm.idx (Nm.isNamed en) l = x := ⟨_, rfl⟩
  rw [hx]
  by_cases hx0 : x < 0
  case neg =>
    have hany : l.any (Nm.isNamed en) = true := by
      obtain ⟨k, hk, _, hp, _⟩ := Nm.idx_some (Nm.isNamed en) l (by rw [hx]; exact hx0)
      exact List.any_eq_true.2 ⟨l[k], List.getElem_mem hk, hp⟩
    have hz := Lib.hid (hadd3.out l hc0.out hrb.out hany)
    have hx1 : x ≥ 0 := by omega
    replace hx := Lib.hid hx
    clear hany
    go_wp2_with fail
    go_ret2
    exact outRes_none hz.out hB4.out
  have hno := Lib.hid (Nm.idx_none (Nm.isNamed en) l (by rw [hx]; exact hx0))
  have hx1 : ¬ x ≥ 0 := by omega
  replace hx := Lib.hid hx
  clear hx0
  have hi47 := idx47_any (Nm.hasRoom en) ⟨w.heap.size, 0, none⟩ l u w4 hrd4 (by omega) (fun r hrl W hW => by
    obtain ⟨a, ha⟩ := hall.out.1 r hrl
    have hi := Nm.one_is ha
    have h1 := hi.name48
    have h2 := hi.len8
    have h3 := hi.fits
    rw [hb256.out] at h3
    exact add1_any r en w.heap.size W ((be4.below hW).get 0 _ rfl) (Nat.lt_of_lt_of_le hlt4 hW.size) (hen.out hc0.out) (by omega) (by omega))
  replace hi47 := Lib.hid hi47
  go_wp2_with fail
  refine hi47.out.mono ?_
  rintro e w5 ⟨rfl, hb5⟩
  have hB5 := hB4.out.trans (hb5.mono hB4.out.size)
  have be5 := be4.below hb5
  have hrd5 : RdR w5 u l := hrd4.below hb5
  clear hb5 d0 d1 d2 hi47 hrd4 be4 hB4 hws4 hlt4
  have hws5 := hB5.size
  have hlt5 := be5.lt
  replace hB5 := Lib.hid hB5
  obtain ⟨y, hy⟩ : ∃ y, Nm.idx (Nm.hasRoom en) l = y := ⟨_, rfl⟩
  rw [hy]
  by_cases hy0 : y < 0
  · have hz := Lib.hid (hadd4.out l hc0.out hrb.out hno.out (by rw [hy]; exact hy0))
    replace hy := Lib.hid hy
    go_wp2_with fail
    go_ret2
    exact outRes_none hz.out hB5.out
  obtain ⟨i, hi, hyi, hp, ht⟩ := Nm.idx_some (Nm.hasRoom en) l (by rw [hy]; exact hy0)
  rw [hy] at hyi
  subst hyi
  have hz := hadd5.out l i hi hc0.out hrb.out hno.out hp ht
  obtain ⟨a, ha⟩ := hall.out.1 l[i] (List.getElem_mem hi)
  have hF := hfits.out l[i] a hb256.out ha hc0.out hp
  have hL := hlen.out l[i] a hb256.out ha hc0.out hp
  have hir := Nm.one_is ha
  obtain ⟨bb, o, cc, hv2, _, hbb, hcell⟩ := hrd5.at (by intro e; rw [e] at hi; simp at hi)
  subst hv2
  have c0 := hcell i hi 0
  have c1 := hcell i hi 1
  have c2 := hcell i hi 2
  have c3 := hcell i hi 3
  have c4 := hcell i hi 4
  have hir3 := hir.fits
  have hir8 := hir.len8
  have hir48 := hir.name48
  have hira := hir.at_
  rw [hb256.out] at hir3
  clear hcell hir hp ht ha hy hy0 hadd1 hadd2 hadd3 hadd4 hadd5 hfits hlen hno hx hx1 hall
  obtain ⟨q, hq⟩ : ∃ q, l[i] = q := ⟨_, rfl⟩
  rw [hq] at c0 c1 c2 c3 c4 hz hF hL hir3 hir8 hir48 hira
  obtain ⟨ra, rl, ⟨rn, ri, rk⟩⟩ := q
  replace c0 := c0 _ rfl
  replace c1 := c1 _ rfl
  replace c2 := c2 _ rfl
  replace c3 := c3 _ rfl
  replace c4 := c4 _ rfl
  dsimp only at c0 c1 c2 c3 c4 hF hL hir3 hir8 hir48 hira
  replace c0 : w5.cell? ⟨bb, o + i * 5, none⟩ = _ := c0
  clear hq
  replace hz := Lib.hid hz
  replace hF := Lib.hid hF
  replace hL := Lib.hid hL
  replace hrd5 := Lib.hid hrd5
  replace be5 := Lib.hid be5
  replace hira := Lib.hid hira
  have hI0 := Lib.hid (show (0 : Int) ≤ (i : Int) by omega)
  have hI1 := Lib.hid (show (i : Int) < (l.length : Int) by omega)
  go_upto_region 12 with fail
  go_cut [10, 11] (fun o p wx => AddMid w b ⟨ra, rl, ⟨rn, ri, rk⟩⟩ ⟨en, ei, ek⟩ o p wx)
  case first =>
    replace hv := hv.out
    subst hv
    have hS := Lib.hid (show ∀ W' : World, Below w5.heap.size w5 W' → ((fun w' => w'.cell? ⟨bb, o + i * 5, none⟩ = some (.int .i64 ra) ∧ w'.cell? ⟨bb, o + i * 5 + 1, none⟩ = some (.int .i64 rl) ∧ w'.cell? ⟨bb, o + i * 5 + 2, none⟩ = some (.string (S rn)) ∧ w'.cell? ⟨bb, o + i * 5 + 3, none⟩ = some (.int .i64 ri) ∧ w'.cell? ⟨bb, o + i * 5 + 4, none⟩ = some (.int .i64 rk))) W' from fun W' h => ⟨(h.cell (p := ⟨bb, _, none⟩) hbb).trans c0, (h.cell (p := ⟨bb, _, none⟩) hbb).trans c1, (h.cell (p := ⟨bb, _, none⟩) hbb).trans c2, (h.cell (p := ⟨bb, _, none⟩) hbb).trans c3, (h.cell (p := ⟨bb, _, none⟩) hbb).trans c4⟩)
    refine wp_region_noPanic ?_
    refine wp_region_held_drew (S := (fun w' => w'.cell? ⟨bb, o + i * 5, none⟩ = some (.int .i64 ra) ∧ w'.cell? ⟨bb, o + i * 5 + 1, none⟩ = some (.int .i64 rl) ∧ w'.cell? ⟨bb, o + i * 5 + 2, none⟩ = some (.string (S rn)) ∧ w'.cell? ⟨bb, o + i * 5 + 3, none⟩ = some (.int .i64 ri) ∧ w'.cell? ⟨bb, o + i * 5 + 4, none⟩ = some (.int .i64 rk))) (by kernel_rfl) (⟨c0, c1, c2, c3, c4⟩) (fun hHeld => ?_)
    refine wpAnyH_take (i := 0) (v := ?_) rfl (by kernel_rfl) (by kernel_rfl) (by kernel_rfl) (fun _ _ _ h => h) (Or.inl ⟨rfl, ?_⟩) (by assumption) ?_
    rotate_left
    · intro W hSw
      (try dsimp only at hSw)
      go_simp
      try with_reducible rfl
    try simp only [List.getElem_toArray, List.getElem_cons_zero, List.getElem_cons_succ, Act.put, List.setIfInBounds_toArray, List.set_cons_zero, List.set_cons_succ]
    refine wpAnyH_take (i := 2) (v := ?_) rfl (by kernel_rfl) (by kernel_rfl) (by kernel_rfl) (fun _ _ _ h => h) (Or.inl ⟨rfl, ?_⟩) (by assumption) ?_
    rotate_left
    · intro W hSw
      (try dsimp only at hSw)
      go_simp
      try with_reducible rfl
    try simp only [List.getElem_toArray, List.getElem_cons_zero, List.getElem_cons_succ, Act.put, List.setIfInBounds_toArray, List.set_cons_zero, List.set_cons_succ]
    refine wpAnyH_take (i := 3) (v := ?_) rfl (by kernel_rfl) (by kernel_rfl) (by kernel_rfl) (fun _ _ _ h => h) (Or.inl ⟨rfl, ?_⟩) (by assumption) ?_
    rotate_left
    · intro W hSw
      (try dsimp only at hSw)
      go_simp
      try with_reducible rfl
    try simp only [List.getElem_toArray, List.getElem_cons_zero, List.getElem_cons_succ, Act.put, List.setIfInBounds_toArray, List.set_cons_zero, List.set_cons_succ]
    have hq0 := hI0.out
    have hq1 := hI1.out
    refine wpAnyH_take (i := 4) (v := ?_) rfl (by kernel_rfl) (by kernel_rfl) (by kernel_rfl) (fun _ _ _ h => h) (Or.inl ⟨rfl, ?_⟩) (by assumption) ?_
    rotate_left
    · intro W hSw
      (try dsimp only at hSw)
      go_simp
      try with_reducible rfl
    try simp only [List.getElem_toArray, List.getElem_cons_zero, List.getElem_cons_succ, Act.put, List.setIfInBounds_toArray, List.set_cons_zero, List.set_cons_succ]
    clear hq0 hq1
    refine wpAnyH_take (i := 5) (v := ?_) rfl (by kernel_rfl) (by kernel_rfl) (by kernel_rfl) (fun _ _ _ h => h) (Or.inl ⟨rfl, ?_⟩) (by assumption) ?_
    rotate_left
    · intro W hSw
      (try dsimp only at hSw)
      go_simp
      try with_reducible rfl
    try simp only [List.getElem_toArray, List.getElem_cons_zero, List.getElem_cons_succ, Act.put, List.setIfInBounds_toArray, List.set_cons_zero, List.set_cons_succ]
    refine wpAnyH_ready (rs := [1, 6]) (by kernel_rfl) (by simp) (AllReadyH.cons rfl (fun K hK => ?_) (AllReadyH.cons rfl (fun K hK => ?_) AllReadyH.nil))
    · go_simp
      refine (hcl.out hb256.out _ (Below.drew hB5.out)).mono ?_
      rintro e w6 ⟨g, cap, rfl, hg6, ho6, hb6⟩
      have hb6' := below_undrew hb6
      have hs6 := hb6'.size
      replace hg6 : w5.heap.size ≤ g := hg6
      refine hK.out _ _ (hS.out _ hb6') (fun hHeld => ?_)
      clear hK
      try simp only [List.getElem_toArray, List.getElem_cons_zero, List.getElem_cons_succ, Act.put, List.setIfInBounds_toArray, List.set_cons_zero, List.set_cons_succ]
      refine wpAnyH_ready (rs := [6]) (by kernel_rfl) (by simp) (AllReadyH.cons rfl (fun K hK => ?_) AllReadyH.nil)
      go_simp
      refine hK.out _ _ (hS.out _ (hb6'.alloc hs6 _)) (fun hHeld => ?_)
      clear hK
      try simp only [List.getElem_toArray, List.getElem_cons_zero, List.getElem_cons_succ, Act.put, List.setIfInBounds_toArray, List.set_cons_zero, List.set_cons_succ]
      refine wpAnyH_take (i := 7) (v := ?_) rfl (by kernel_rfl) (by kernel_rfl) (by kernel_rfl) (fun _ _ _ h => h) (Or.inl ⟨rfl, ?_⟩) (by assumption) ?_
      rotate_left
      · intro W hSw
        (try dsimp only at hSw)
        go_simp
        try with_reducible rfl
      try simp only [List.getElem_toArray, List.getElem_cons_zero, List.getElem_cons_succ, Act.put, List.setIfInBounds_toArray, List.set_cons_zero, List.set_cons_succ]
      refine wpAnyH_ready (rs := [8]) (by kernel_rfl) (by simp) (AllReadyH.cons rfl (fun K hK => ?_) AllReadyH.nil)
      go_simp
      refine hK.out _ _ (hS.out _ (hb6'.alloc hs6 _)) (fun hHeld => ?_)
      clear hK
      try simp only [List.getElem_toArray, List.getElem_cons_zero, List.getElem_cons_succ, Act.put, List.setIfInBounds_toArray, List.set_cons_zero, List.set_cons_succ]
      refine wpAnyH_done (by kernel_rfl) ?_ _
      (try dsimp only [NoPanic])
      go_wp2_with fail
      go_meet
      have hgl := ho6.lt
      exact ⟨g, cap, w6.heap.size, rfl, rfl, ho6.alloc _, Box.new _ _ _, by omega, by omega, by omega, (be5.out.below hb6').alloc _, (hB5.out.trans (hb6'.mono hws5)).alloc (by omega) _⟩
    · go_simp
      have hXa : Below w5.heap.size w5 (w5.alloc (.cells #[.int .i64 0, .int .i64 0, .string ⟨#[]⟩, .int .i64 0, .int .i64 0] 69)).drew := ((Below.refl _ _).alloc (Nat.le_refl _) _).drew
      have hBx : Box (w5.alloc (.cells #[.int .i64 0, .int .i64 0, .string ⟨#[]⟩, .int .i64 0, .int .i64 0] 69)).drew w5.heap.size 69 #[.int .i64 0, .int .i64 0, .string ⟨#[]⟩, .int .i64 0, .int .i64 0] := Box.new _ _ _
      have hsz : (w5.alloc (.cells #[.int .i64 0, .int .i64 0, .string ⟨#[]⟩, .int .i64 0, .int .i64 0] 69)).drew.heap.size = w5.heap.size + 1 := World.size_alloc _ _
      refine hK.out _ _ (hS.out _ hXa) (fun hHeld => ?_)
      clear hK
      try simp only [List.getElem_toArray, List.getElem_cons_zero, List.getElem_cons_succ, Act.put, List.setIfInBounds_toArray, List.set_cons_zero, List.set_cons_succ]
      generalize (w5.alloc (.cells #[.int .i64 0, .int .i64 0, .string ⟨#[]⟩, .int .i64 0, .int .i64 0] 69)).drew = w5a at hXa hBx hsz hHeld ⊢
      refine wpAnyH_ready (rs := [1]) (by kernel_rfl) (by simp) (AllReadyH.cons rfl (fun K hK => ?_) AllReadyH.nil)
      go_simp
      refine (hcl.out hb256.out _ (hB5.out.trans (hXa.mono hws5))).mono ?_
      rintro e w6 ⟨g, cap, rfl, hg6, ho6, hb6⟩
      have hb6' := hXa.trans (hb6.mono (by omega : w5.heap.size ≤ w5a.heap.size))
      have hs6 := hb6'.size
      have hBy := hBx.below hb6
      have y0 := hBy.get 0 _ rfl
      have y1 := hBy.get 1 _ rfl
      have y2 := hBy.get 2 _ rfl
      have y3 := hBy.get 3 _ rfl
      have y4 := hBy.get 4 _ rfl
      have yf := hBy.frozen
      refine hK.out _ _ (hS.out _ hb6') (fun hHeld => ?_)
      clear hK
      try simp only [List.getElem_toArray, List.getElem_cons_zero, List.getElem_cons_succ, Act.put, List.setIfInBounds_toArray, List.set_cons_zero, List.set_cons_succ]
      refine wpAnyH_take (i := 7) (v := ?_) rfl (by kernel_rfl) (by kernel_rfl) (by kernel_rfl) (fun _ _ _ h => h) (Or.inl ⟨rfl, ?_⟩) (by assumption) ?_
      rotate_left
      · intro W hSw
        (try dsimp only at hSw)
        go_simp
        try with_reducible rfl
      try simp only [List.getElem_toArray, List.getElem_cons_zero, List.getElem_cons_succ, Act.put, List.setIfInBounds_toArray, List.set_cons_zero, List.set_cons_succ]
      refine wpAnyH_ready (rs := [8]) (by kernel_rfl) (by simp) (AllReadyH.cons rfl (fun K hK => ?_) AllReadyH.nil)
      go_simp
      refine hK.out _ _ (hS.out _ (((((hb6'.setCell (p := ⟨w5.heap.size, 0, none⟩) (by show w5.heap.size ≤ w5.heap.size; exact Nat.le_refl _) _).setCell (p := ⟨w5.heap.size, 1, none⟩) (by show w5.heap.size ≤ w5.heap.size; exact Nat.le_refl _) _).setCell (p := ⟨w5.heap.size, 2, none⟩) (by show w5.heap.size ≤ w5.heap.size; exact Nat.le_refl _) _).setCell (p := ⟨w5.heap.size, 3, none⟩) (by show w5.heap.size ≤ w5.heap.size; exact Nat.le_refl _) _).setCell (p := ⟨w5.heap.size, 4, none⟩) (by show w5.heap.size ≤ w5.heap.size; exact Nat.le_refl _) _)) (fun hHeld => ?_)
      clear hK
      try simp only [List.getElem_toArray, List.getElem_cons_zero, List.getElem_cons_succ, Act.put, List.setIfInBounds_toArray, List.set_cons_zero, List.set_cons_succ]
      refine wpAnyH_done (by kernel_rfl) ?_ _
      (try dsimp only [NoPanic])
      go_wp2_with fail
      go_meet
      have hgl := ho6.lt
      exact ⟨g, cap, w5.heap.size, rfl, rfl, (((((ho6.far ⟨w5.heap.size, 0, none⟩ _ (by show w5.heap.size ≠ g; omega)).far ⟨w5.heap.size, 1, none⟩ _ (by show w5.heap.size ≠ g; omega)).far ⟨w5.heap.size, 2, none⟩ _ (by show w5.heap.size ≠ g; omega)).far ⟨w5.heap.size, 3, none⟩ _ (by show w5.heap.size ≠ g; omega)).far ⟨w5.heap.size, 4, none⟩ _ (by show w5.heap.size ≠ g; omega)), (((((hBy.set 0 _).set 1 _).set 2 _).set 3 _).set 4 _), by omega, by omega, by omega, ((((((be5.out.below hb6').far ⟨w5.heap.size, 0, none⟩ _ (by show w5.heap.size ≠ w.heap.size; omega)).far ⟨w5.heap.size, 1, none⟩ _ (by show w5.heap.size ≠ w.heap.size; omega)).far ⟨w5.heap.size, 2, none⟩ _ (by show w5.heap.size ≠ w.heap.size; omega)).far ⟨w5.heap.size, 3, none⟩ _ (by show w5.heap.size ≠ w.heap.size; omega)).far ⟨w5.heap.size, 4, none⟩ _ (by show w5.heap.size ≠ w.heap.size; omega)), ((((((hB5.out.trans (hb6'.mono hws5)).setCell (p := ⟨w5.heap.size, 0, none⟩) (by show w.heap.size ≤ w5.heap.size; omega) _).setCell (p := ⟨w5.heap.size, 1, none⟩) (by show w.heap.size ≤ w5.heap.size; omega) _).setCell (p := ⟨w5.heap.size, 2, none⟩) (by show w.heap.size ≤ w5.heap.size; omega) _).setCell (p := ⟨w5.heap.size, 3, none⟩) (by show w.heap.size ≤ w5.heap.size; omega) _).setCell (p := ⟨w5.heap.size, 4, none⟩) (by show w.heap.size ≤ w5.heap.size; omega) _)⟩
  case rest =>
  obtain ⟨g, cap, B, rfl, rfl, ho, hX, hBg, hwB, hwg, he, hBel⟩ := hcut
  dsimp only at hX he
  clear c0 c1 c2 c3 c4 be5 hB5 hrd5
  have hgl := ho.lt
  have d0 := hX.get 0 _ rfl
  have d1 := hX.get 1 _ rfl
  have d2 := hX.get 2 _ rfl
  have d3 := hX.get 3 _ rfl
  have d4 := hX.get 4 _ rfl
  have hf := hX.frozen
  have e0 := he.get 0 _ rfl
  have e1 := he.get 1 _ rfl
  have e2 := he.get 2 _ rfl
  have hne1 : B ≠ w.heap.size := by omega
  by_cases hri : ri = 0
  · have z : (ri != 0) = false := by simpa using hri
    have hr1 := hF.out.1 hri
    have hfin : Nm.addRec b ⟨ra, rl, ⟨rn, ri, rk⟩⟩ ⟨en, ei, ek⟩ = Nm.put b ⟨ra, rl, ⟨en, ei, ek⟩⟩ := by unfold Nm.addRec; rw [if_pos hri]
    rw [hfin] at hz hL
    have hh := fun (W : World) (h : OwnB W g cap b) => head_rec b g cap ⟨ra, rl, ⟨en, ei, ek⟩⟩ W h hb256.out hr1
    unfold recV at hh
    dsimp only at hh
    have ho3 : OwnB (((wc.setCell ⟨B, 2, none⟩ (.string (S en))).setCell ⟨B, 3, none⟩ (.int .i64 ei)).setCell ⟨B, 4, none⟩ (.int .i64 ek)) g cap b := (((ho.far ⟨B, 2, none⟩ _ (by show B ≠ g; omega)).far ⟨B, 3, none⟩ _ (by show B ≠ g; omega)).far ⟨B, 4, none⟩ _ (by show B ≠ g; omega))
    have hB3 : Below w.heap.size w (((wc.setCell ⟨B, 2, none⟩ (.string (S en))).setCell ⟨B, 3, none⟩ (.int .i64 ei)).setCell ⟨B, 4, none⟩ (.int .i64 ek)) := (((hBel.setCell (p := ⟨B, 2, none⟩) (by show w.heap.size ≤ B; omega) _).setCell (p := ⟨B, 3, none⟩) (by show w.heap.size ≤ B; omega) _).setCell (p := ⟨B, 4, none⟩) (by show w.heap.size ≤ B; omega) _)
    replace hh := Lib.hid (hh _ ho3)
    replace hB3 := Lib.hid hB3
    clear ho3 hri hr1 hfin
    go_wp2_with (go_at_call 40; (with_reducible refine hh.out.mono ?_); rintro e w9 ⟨rfl, ho9, hg9⟩)
    go_ret2
    exact outRes_some hz.out hL.out (by omega) ho9 (hB3.out.grown hg9 hB3.out.size (fun k hk => by cases hk; omega))
  · have z : (ri != 0) = true := by simpa using hri
    obtain ⟨hr1, hr2⟩ := hF.out.2 hri
    have hfin : Nm.addRec b ⟨ra, rl, ⟨rn, ri, rk⟩⟩ ⟨en, ei, ek⟩ = Nm.put (Nm.put b ⟨ra, Nm.own ⟨ra, rl, ⟨rn, ri, rk⟩⟩, ⟨rn, ri, rk⟩⟩) ⟨ra + Nm.own ⟨ra, rl, ⟨rn, ri, rk⟩⟩, rl - Nm.own ⟨ra, rl, ⟨rn, ri, rk⟩⟩, ⟨en, ei, ek⟩⟩ := by unfold Nm.addRec; rw [if_neg hri]
    rw [hfin] at hz hL
    have how := fun W => own_any ⟨ra, rl, ⟨rn, ri, rk⟩⟩ W (by dsimp only; omega)
    have ho8 := (Nm.own_ge ⟨ra, rl, ⟨rn, ri, rk⟩⟩).1
    obtain ⟨ow, hoe⟩ : ∃ ow, Nm.own ⟨ra, rl, ⟨rn, ri, rk⟩⟩ = ow := ⟨_, rfl⟩
    rw [hoe] at hz hL how hr1 hr2 ho8
    clear hoe hfin hri
    have hra0 : 0 ≤ ra := hr1.1
    have hra1 : ra ≤ 256 := by have := hr1.2.1; dsimp only at this; omega
    have hrl0 : 0 ≤ rl - ow := hr2.2.2.1
    have hrl1 : rl ≤ 256 := by omega
    have how1 : ow ≤ 256 := by omega
    have hh1 := fun (W : World) (h : OwnB W g cap b) => head_rec b g cap ⟨ra, ow, ⟨rn, ri, rk⟩⟩ W h hb256.out hr1
    have hp1 := Nm.put_length hb256.out hr1
    have hh2 := fun (W : World) (h : OwnB W g cap (Nm.put b ⟨ra, ow, ⟨rn, ri, rk⟩⟩)) => head_rec _ g cap ⟨ra + ow, rl - ow, ⟨en, ei, ek⟩⟩ W h hp1 hr2
    clear hp1 hr1 hr2
    obtain ⟨b1, hb1⟩ : ∃ b1, Nm.put b ⟨ra, ow, ⟨rn, ri, rk⟩⟩ = b1 := ⟨_, rfl⟩
    rw [hb1] at hz hL hh1 hh2
    clear hb1
    unfold recV at hh1 hh2 how
    dsimp only at hh1 hh2 how
    replace hh1 := Lib.hid hh1
    replace hh2 := Lib.hid hh2
    replace how := Lib.hid how
    go_wp2_with fail
    refine (how.out _).mono ?_
    rintro e w7 ⟨rfl, hb7⟩
    have ho7 := ho.below hb7
    have hX7 := hX.below hb7
    have he7 := he.below hb7
    have hB7 := hBel.trans (hb7.mono hBel.size)
    clear ho hX he hBel hb7 d0 d1 d2 d3 d4 hf e0 e1 e2
    have d0 := hX7.get 0 _ rfl
    have d1 := hX7.get 1 _ rfl
    have d2 := hX7.get 2 _ rfl
    have d3 := hX7.get 3 _ rfl
    have d4 := hX7.get 4 _ rfl
    go_wp2_with fail
    refine (hh1.out w7 ho7).mono ?_
    rintro e w8 ⟨rfl, ho8', hg8⟩
    have hX8 := hX7.grown hg8 (by simp; omega)
    have he8 := he7.grown hg8 (by simp; omega)
    have hB8 := hB7.grown hg8 hB7.size (fun k hk => by cases hk; omega)
    clear d0 d1 d2 d3 d4 hX7 he7 hB7 ho7 hg8
    have d0 := hX8.get 0 _ rfl
    have d1 := hX8.get 1 _ rfl
    have d2 := hX8.get 2 _ rfl
    have d3 := hX8.get 3 _ rfl
    have d4 := hX8.get 4 _ rfl
    have hf := hX8.frozen
    have e0 := he8.get 0 _ rfl
    have e1 := he8.get 1 _ rfl
    have e2 := he8.get 2 _ rfl
    have ho3 : OwnB (((((w8.setCell ⟨B, 0, none⟩ (.int .i64 (ra + ow))).setCell ⟨B, 1, none⟩ (.int .i64 (rl - ow))).setCell ⟨B, 2, none⟩ (.string (S en))).setCell ⟨B, 3, none⟩ (.int .i64 ei)).setCell ⟨B, 4, none⟩ (.int .i64 ek)) g cap b1 := (((((ho8'.far ⟨B, 0, none⟩ _ (by show B ≠ g; omega)).far ⟨B, 1, none⟩ _ (by show B ≠ g; omega)).far ⟨B, 2, none⟩ _ (by show B ≠ g; omega)).far ⟨B, 3, none⟩ _ (by show B ≠ g; omega)).far ⟨B, 4, none⟩ _ (by show B ≠ g; omega))
    have hB3 : Below w.heap.size w (((((w8.setCell ⟨B, 0, none⟩ (.int .i64 (ra + ow))).setCell ⟨B, 1, none⟩ (.int .i64 (rl - ow))).setCell ⟨B, 2, none⟩ (.string (S en))).setCell ⟨B, 3, none⟩ (.int .i64 ei)).setCell ⟨B, 4, none⟩ (.int .i64 ek)) := (((((hB8.setCell (p := ⟨B, 0, none⟩) (by show w.heap.size ≤ B; omega) _).setCell (p := ⟨B, 1, none⟩) (by show w.heap.size ≤ B; omega) _).setCell (p := ⟨B, 2, none⟩) (by show w.heap.size ≤ B; omega) _).setCell (p := ⟨B, 3, none⟩) (by show w.heap.size ≤ B; omega) _).setCell (p := ⟨B, 4, none⟩) (by show w.heap.size ≤ B; omega) _)
    have hh3 := Lib.hid (hh2.out _ ho3)
    replace hB3 := Lib.hid hB3
    replace hX8 := Lib.hid hX8
    replace he8 := Lib.hid he8
    replace hB8 := Lib.hid hB8
    clear ho3
    go_wp2_with (go_at_call 40; (with_reducible refine hh3.out.mono ?_); rintro e w9 ⟨rfl, ho9, hg9⟩)
    go_ret2
    exact outRes_some hz.out hL.out (by omega) ho9 (hB3.out.grown hg9 hB3.out.size (fun k hk => by cases hk; omega))
end Go.Proofs.Ytmlgjmcenjbbeaa
