/- dirent.Turn; the reference's place. -/
import Derived.Test.YtmlgjmcenjbbeaaAg
namespace Go.Proofs.Ytmlgjmcenjbbeaa
open Go.RowKit
namespace Nm
theorem idx_end (p : Rec → Bool) (l : List Rec) (ht : (l.take l.length).any p = false) : idx p l = -1 := by
  rw [List.take_length] at ht
  unfold idx
  rw [if_neg (by rw [ht]; simp)]
theorem turn_err {b : List UInt8} {e : Ent} (h : chk e ≠ 0) : turn b e = (none, chk e) := by unfold turn; rw [if_pos h]
theorem turn_dir {b : List UInt8} {e : Ent} (h : chk e = 0) (h2 : recs b = none) : turn b e = (none, 160) := by unfold turn; rw [if_neg (by simpa using h), h2]
theorem turn_none {b : List UInt8} {e : Ent} {l : List Rec} (h : chk e = 0) (h2 : recs b = some l) (h3 : l.any (isNamed e.name) = false) : turn b e = (none, 4) := by
  unfold turn; rw [if_neg (by simpa using h), h2]; simp only
  rw [List.getElem?_eq_none]
  rw [List.findIdx_eq_length.2 (fun x hx => by simpa using List.any_eq_false.1 h3 x hx)]
  exact Nat.le_refl _
theorem turn_some {b : List UInt8} {e : Ent} {l : List Rec} {k : Nat} (h : chk e = 0) (h2 : recs b = some l) (hk : k < l.length) (h4 : isNamed e.name l[k] = true) (h5 : (l.take k).any (isNamed e.name) = false) : turn b e = (some (put b ⟨l[k].at_, l[k].len, e⟩), 0) := by
  unfold turn; rw [if_neg (by simpa using h), h2]; simp only
  have : l.findIdx (isNamed e.name) = k := by
    rw [List.findIdx_eq hk]
    exact ⟨h4, fun j hj => by
      have := List.any_eq_false.1 h5 l[j] (by rw [List.mem_take_iff_getElem]; exact ⟨j, by omega, rfl⟩)
      simpa using this⟩
  rw [this, List.getElem?_eq_getElem hk]
end Nm
set_option maxRecDepth 100000 in
set_option maxHeartbeats 8000000 in
theorem turn_any (b : List UInt8) (e : Ent) (v : Value) (w : World) (hr : RdB w v b) : Calls Try.prog 31 #[v, entV e] w (OutRes (Nm.turn b e) w) := by
  have hE1 := @Nm.turn_err b e
  have hE2 := @Nm.turn_dir b e
  have hE3 := fun l => @Nm.turn_none b e l
  have hE4 := fun l k => @Nm.turn_some b e l k
  have hF := fun (l : List Rec) (k : Nat) (h : Nm.recs b = some l) (hk : k < l.length) (hc : Nm.chk e = 0) (hn : Nm.isNamed e.name l[k] = true) => Nm.fits_turn h hk hc hn
  have hall := Nm.recs_getD b
  have hchk := fun W => check_any e W
  have hrecs := fun (W : World) (hW : Below w.heap.size w W) => records_any b v W (hr.below hW)
  have hcl := fun (hb : b.length = 256) (W : World) (hW : Below w.heap.size w W) => clone256 (clone_any b v W (hr.below hW) hb) hb
  clear hr
  obtain ⟨en, ei, ek⟩ := e
  have hB1 := (Below.refl _ w).alloc (Nat.le_refl _) (.cells #[.string (S en), .int .i64 ei, .int .i64 ek] 24)
  have bx1 := Box.new w 24 #[.string (S en), .int .i64 ei, .int .i64 ek]
  unfold entV at hchk ⊢
  dsimp only at *
  obtain ⟨c, hc⟩ : ∃ c, Nm.chk ⟨en, ei, ek⟩ = c := ⟨_, rfl⟩
  rw [hc] at hE1 hE2 hE3 hE4 hF hchk
  clear hc
  replace hE1 := Lib.hid hE1
  replace hE2 := Lib.hid hE2
  replace hE3 := Lib.hid hE3
  replace hE4 := Lib.hid hE4
  replace hF := Lib.hid hF
  replace hchk := Lib.hid hchk
  replace hrecs := Lib.hid hrecs
  replace hcl := Lib.hid hcl
  replace hB1 := Lib.hid hB1
  replace bx1 := Lib.hid bx1
  replace hall := Lib.hid hall
  go_enter Try.func31, Try.ntmps31
  go_wp2_with fail
  refine (hchk.out _).mono ?_
  rintro e w2 ⟨rfl, hb⟩
  have hB2 := hB1.out.trans (hb.mono hB1.out.size)
  have be2 := bx1.out.below hb
  clear hb hB1 bx1 hchk
  replace hB2 := Lib.hid hB2
  by_cases hc0 : c = 0
  case neg =>
    have n0 : (c != 0) = true := by simpa using hc0
    have hx := Lib.hid (hE1.out hc0)
    clear hc0
    replace be2 := Lib.hid be2
    go_wp2_with fail
    go_ret2
    exact outRes_none hx.out hB2.out
  have n0 : (c != 0) = false := by simpa using hc0
  replace hc0 := Lib.hid hc0
  have h3 := hrecs.out w2 hB2.out
  rcases hrb : Nm.recs b with _ | l
  · have hx := Lib.hid (hE2.out hc0.out hrb)
    rw [hrb] at h3
    replace h3 := Lib.hid h3
    replace be2 := Lib.hid be2
    go_wp2_with (go_at_call 39; refine h3.out.mono ?_; rintro e w3 ⟨u, rfl, _, hb3⟩)
    go_ret2
    exact outRes_none hx.out (hB2.out.trans (hb3.mono hB2.out.size))
  rw [hrb] at h3 hall
  have hl32 : l.length ≤ 32 := hall.out.2
  have hb256 := Lib.hid (Nm.recs_len hrb)
  replace hrb := Lib.hid hrb
  unfold RecsRes at h3
  replace h3 := Lib.hid h3
  go_wp2_with (go_at_call 39; refine h3.out.mono ?_; rintro e w3 ⟨u, rfl, hown3, hb3⟩; have hrd3 := RdC.of_own recL_len hown3; replace hrd3 : RdR w3 u l := hrd3; have hpl := Lib.hid (place_any l en u w3 hrd3 (by omega)); have hB3 := hB2.out.trans (hb3.mono hB2.out.size); have be3 := be2.below hb3; have d0 := be3.get 0 _ rfl; have d1 := be3.get 1 _ rfl; have d2 := be3.get 2 _ rfl; replace hB3 := Lib.hid hB3; replace hrd3 := Lib.hid hrd3; replace be3 := Lib.hid be3; refine Hid.out ?_)
  refine Lib.hid ?_
  go_wp2_with fail
  refine hpl.out.mono ?_
  rintro e w4 ⟨rfl, hb4⟩
  have hB4 := hB3.out.trans (hb4.mono hB3.out.size)
  have be4 := be3.out.below hb4
  have hrd4 : RdR w4 u l := hrd3.out.below hb4
  clear hb4 hown3 hb3 d0 d1 d2 hpl hrd3 be3 hB3 be2 hB2 h3 hrecs hall
  have hws4 := hB4.size
  replace hB4 := Lib.hid hB4
  replace be4 := Lib.hid be4
  replace hrd4 := Lib.hid hrd4
  obtain ⟨x, hx⟩ : ∃ x, Nm.idx (Nm.isNamed en) l = x := ⟨_, rfl⟩
  rw [hx]
  by_cases hx0 : x < 0
  · have hz := Lib.hid (hE3.out l hc0.out hrb.out (Nm.idx_none _ _ (by rw [hx]; exact hx0)))
    replace hx := Lib.hid hx
    go_wp2_with fail
    go_ret2
    exact outRes_none hz.out hB4.out
  obtain ⟨i, hi, hyi, hp, ht⟩ := Nm.idx_some (Nm.isNamed en) l (by rw [hx]; exact hx0)
  rw [hx] at hyi
  have hz := hE4.out l i hc0.out hrb.out hi hp ht
  have hFi := hF.out l i hrb.out hi hc0.out hp
  clear hp ht hx hE1 hE2 hE3 hE4 hF
  have hcl4 := Lib.hid (hcl.out hb256.out w4 hB4.out)
  replace hz := Lib.hid hz
  replace hFi := Lib.hid hFi
  clear hcl
  subst hyi
  go_wp2_with fail
  refine hcl4.out.mono ?_
  rintro e w5 ⟨g, cap, rfl, hg5, ho5, hb5⟩
  have hB5 := hB4.out.trans (hb5.mono hws4)
  have hrd5 := hrd4.out.below hb5
  have be5 := be4.out.below hb5
  clear hb5 hrd4 hB4 hcl4 be4
  have hws5 := hB5.size
  have hgl := ho5.lt
  have hel := be5.lt
  obtain ⟨bb, o, cc, hv2, _, hbb, hcell⟩ := hrd5.at (by intro e; rw [e] at hi; simp at hi)
  subst hv2
  clear hrd5
  have c0 := hcell i hi 0
  have c1 := hcell i hi 1
  have c2 := hcell i hi 2
  have c3 := hcell i hi 3
  have c4 := hcell i hi 4
  replace hz := hz.out
  replace hFi := hFi.out
  have hL := Nm.put_length hb256.out hFi
  clear hcell
  obtain ⟨q, hq⟩ : ∃ q, l[i] = q := ⟨_, rfl⟩
  rw [hq] at c0 c1 c2 c3 c4 hz hFi hL
  clear hq
  obtain ⟨ra, rl, ⟨rn, ri, rk⟩⟩ := q
  replace c0 := c0 _ rfl
  replace c1 := c1 _ rfl
  replace c2 := c2 _ rfl
  replace c3 := c3 _ rfl
  replace c4 := c4 _ rfl
  dsimp only at c0 c1 c2 c3 c4 hz hFi hL
  replace c0 : w5.cell? ⟨bb, o + i * 5, none⟩ = _ := c0
  have p0 : (0 : Int) ≤ (i : Int) := by omega
  have p1 : (i : Int) < (l.length : Int) := by omega
  have X6 := Box.new w5 69 #[.int .i64 ra, .int .i64 rl, .string (S rn), .int .i64 ri, .int .i64 rk]
  have hB6 := hB5.alloc hws5 (.cells #[.int .i64 ra, .int .i64 rl, .string (S rn), .int .i64 ri, .int .i64 rk] 69)
  have ho6 := ho5.alloc (.cells #[.int .i64 ra, .int .i64 rl, .string (S rn), .int .i64 ri, .int .i64 rk] 69)
  have be6 := be5.alloc (.cells #[.int .i64 ra, .int .i64 rl, .string (S rn), .int .i64 ri, .int .i64 rk] 69)
  clear ho5 be5 hB5
  replace X6 := Lib.hid X6
  replace hB6 := Lib.hid hB6
  replace ho6 := Lib.hid ho6
  replace be6 := Lib.hid be6
  replace hFi := Lib.hid hFi
  replace hz := Lib.hid hz
  replace hL := Lib.hid hL
  go_upto_region 12 with fail
  clear c0 c1 c2 c3 c4
  obtain ⟨W6, hW6⟩ : ∃ W6, w5.alloc (.cells #[.int .i64 ra, .int .i64 rl, .string (S rn), .int .i64 ri, .int .i64 rk] 69) = W6 := ⟨_, rfl⟩
  rw [hW6] at X6 hB6 ho6 be6 ⊢
  clear hW6
  have d0 := X6.out.get 0 _ rfl
  have d1 := X6.out.get 1 _ rfl
  have d2 := X6.out.get 2 _ rfl
  have d3 := X6.out.get 3 _ rfl
  have d4 := X6.out.get 4 _ rfl
  have hf := X6.out.frozen
  have e0 := be6.out.get 0 _ rfl
  have e1 := be6.out.get 1 _ rfl
  have e2 := be6.out.get 2 _ rfl
  have hne1 : w5.heap.size ≠ w.heap.size := by omega
  have ho7 := ((ho6.out.far ⟨w5.heap.size, 2, none⟩ (.string (S en)) (by show w5.heap.size ≠ g; omega)).far ⟨w5.heap.size, 3, none⟩ (.int .i64 ei) (by show w5.heap.size ≠ g; omega)).far ⟨w5.heap.size, 4, none⟩ (.int .i64 ek) (by show w5.heap.size ≠ g; omega)
  have hB7 := ((hB6.out.setCell (p := ⟨w5.heap.size, 2, none⟩) (by show w.heap.size ≤ w5.heap.size; omega) (.string (S en))).setCell (p := ⟨w5.heap.size, 3, none⟩) (by show w.heap.size ≤ w5.heap.size; omega) (.int .i64 ei)).setCell (p := ⟨w5.heap.size, 4, none⟩) (by show w.heap.size ≤ w5.heap.size; omega) (.int .i64 ek)
  have hh := head_rec b g cap ⟨ra, rl, ⟨en, ei, ek⟩⟩ _ ho7 hb256.out hFi.out
  unfold recV at hh
  dsimp only at hh
  replace hh := Lib.hid hh
  replace hB7 := Lib.hid hB7
  clear ho7
  go_wp2_with (go_at_call 40; (with_reducible refine hh.out.mono ?_); rintro e w9 ⟨rfl, ho9, hg9⟩)
  go_ret2
  exact outRes_some hz.out hL.out (by omega) ho9 (hB7.out.grown hg9 hB7.out.size (fun k hk => by cases hk; omega))
set_option maxRecDepth 100000 in
set_option maxHeartbeats 4000000 in
theorem placer_any (l : List Rec) (n : List UInt8) (v : Value) (w : World) (hrd : RdR w v l) (hl : l.length ≤ 1000) : Calls Try.prog 52 #[v, .string (S n)] w (NumB (Nm.idx (Nm.isNamed n) l) w) := by
  obtain ⟨la, lc, hv⟩ := hrd.len
  subst hv
  replace hrd := Lib.hid hrd
  go_enter Try.func52, Try.ntmps52
  go_wp2_with fail
  go_loop [5] (fun i => ∃ k : Nat, k ≤ l.length ∧ i = .int .i64 k ∧ (l.take k).any (Nm.isNamed n) = false) (fun i => l.length - (intOf i).toNat)
  case atStart => exact ⟨0, by omega, rfl, rfl⟩
  case round =>
    obtain ⟨k, hk, rfl, hF⟩ := hrel
    by_cases hlt : k < l.length
    · obtain ⟨bb, o, cc, hv, _, hbb, hcell⟩ := hrd.out.at (by intro e; rw [e] at hlt; simp at hlt)
      cases hv
      have c2 := hcell k hlt 2
      have c3 := hcell k hlt 3
      have hT := Nm.any_take_r (Nm.isNamed n) l k hlt hF
      have hH := Nm.idx_hit (Nm.isNamed n) l k hlt hF
      clear hcell hF
      obtain ⟨q, hq⟩ : ∃ q, l[k] = q := ⟨_, rfl⟩
      rw [hq] at c2 c3 hT hH
      clear hq
      obtain ⟨qa, ql, ⟨qn, qi, qk⟩⟩ := q
      replace c2 := c2 _ rfl
      replace c3 := c3 _ rfl
      dsimp only at c2 c3
      have hI0 : (0 : Int) ≤ (k : Int) := by omega
      have hI1 : (k : Int) < (l.length : Int) := by omega
      by_cases h0 : qi = 0
      · have z : (qi != 0) = false := by simpa using h0
        have hT' := Lib.hid (hT (by unfold Nm.isNamed; simp [h0]))
        clear hT hH h0
        go_wp2_with fail
        go_round
        case rel => exact ⟨k + 1, by omega, by go_num, hT'.out⟩
        case measure => simp [intOf]; omega
      · have z : (qi != 0) = true := by simpa using h0
        by_cases hx : (qn == n) = true
        · have hH' := Lib.hid (hH (by unfold Nm.isNamed; simp [h0]; simpa using hx))
          clear hT hH h0
          go_wp2_with fail
          go_ret
          exact ⟨by rw [hH'.out]; rfl, Below.refl _ _⟩
        · rw [Bool.not_eq_true] at hx
          have hT' := Lib.hid (hT (by unfold Nm.isNamed; simp only [hx, Bool.and_false]))
          clear hT hH h0
          go_wp2_with fail
          go_round
          case rel => exact ⟨k + 1, by omega, by go_num, hT'.out⟩
          case measure => simp [intOf]; omega
    · have hk' : k = l.length := by omega
      subst hk'
      have hfin := Lib.hid (Nm.idx_end (Nm.isNamed n) l hF)
      clear hF
      go_wp2_with fail
      go_ret
      exact ⟨by rw [hfin.out]; rfl, Below.refl _ _⟩
end Go.Proofs.Ytmlgjmcenjbbeaa
