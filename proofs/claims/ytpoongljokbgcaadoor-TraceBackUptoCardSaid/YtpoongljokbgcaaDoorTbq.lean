import Derived.Test.YtpoongljokbgcaaDoorTbm
import Derived.Test.YtpoongljokbgcaaDoorTbh
import Derived.Test.YtpoongljokbgcaaDoorTbp
import Derived.Test.YtpoongljokbgcaaDoorTbi
/- slipwaylaw27.TraceBack returns true. -/
namespace Go.Proofs.YtpoongljokbgcaaDoor
open Go.RowKit
namespace Tr
theorem parse_small {line : List UInt8} {o : Opr} (hl : line.length ≤ 4000000) (h : parse line = some o) : o.small := by
  have hx : ∀ i, ((spl 32 line).getD i []).length ≤ line.length := getD_len 32 line
  unfold parse at h
  dsimp only at h
  split at h
  · cases h
  · split at h
    · cases h
      have ht : ∀ i, (txt (spl 32 line) i).length ≤ 4000000 := fun i => Nat.le_trans (Nat.le_trans (unq_len _) (hx i)) hl
      have hk := kindN_range ((spl 32 line).getD 0 []) 13
      refine ⟨⟨?_, ?_, ?_⟩, ?_, ?_, ?_⟩
      · show in64 (kindOf _); unfold kindOf in64; omega
      · show in64 (if _ then _ else _)
        split
        · exact pnum_in _
        · exact in64_zero
      · show in64 (if _ then _ else _)
        split
        · exact pnum_in _
        · split
          · exact pnum_in _
          · exact in64_zero
      · show (if _ then _ else _ : List UInt8).length ≤ _
        split
        · simp
        · exact ht 1
      · show (if _ then _ else _ : List UInt8).length ≤ _
        split
        · exact ht 2
        · simp
      · show (if _ then _ else _ : List UInt8).length ≤ _
        split
        · exact Nat.le_trans (Nat.le_trans (unhexesX_len _) (hx 3)) hl
        · simp
    · cases h
theorem same_plain (o : Opr) : same o (plain o) = true := by unfold same; rw [plain_plain]; unfold eqB; simp
theorem eqB_self (o : Opr) : eqB o o = true := by unfold eqB; simp
end Tr
/-- The plain calls of a list, read one by one. -/
theorem RdO.atMap {W : World} {v : Value} {l : List Opr} (h : RdO W v (l.map Tr.plain)) : ∃ ba bc, v = .slice ba l.length bc ∧ (l ≠ [] → ∃ b o, ba = some ⟨b, o, none⟩ ∧ l.length ≤ bc ∧ b < W.heap.size ∧ ∀ j (hj : j < l.length), ∃ ad cp,
      W.cell? ⟨b, o + j * 6, none⟩ = some (.int .i64 (Tr.plain l[j]).kind) ∧ W.cell? ⟨b, o + j * 6 + 1, none⟩ = some (.string (S (Tr.plain l[j]).path)) ∧ W.cell? ⟨b, o + j * 6 + 2, none⟩ = some (.string (S (Tr.plain l[j]).dest)) ∧
      W.cell? ⟨b, o + j * 6 + 3, none⟩ = some (.int .i64 (Tr.plain l[j]).off) ∧ W.cell? ⟨b, o + j * 6 + 4, none⟩ = some (.int .i64 (Tr.plain l[j]).len) ∧ W.cell? ⟨b, o + j * 6 + 5, none⟩ = some (.slice ad (Tr.plain l[j]).data.length cp) ∧
      RdB W (.slice ad (Tr.plain l[j]).data.length cp) (Tr.plain l[j]).data) := by
  have hat := h.at
  obtain ⟨ba, bc, rfl⟩ := h.len
  refine ⟨ba, bc, by rw [List.length_map], fun hne => ?_⟩
  obtain ⟨b, o, cap, e, hc, hb, hx⟩ := hat (by simpa using hne)
  cases e
  refine ⟨b, o, rfl, by simpa using hc, hb, fun j hj => ?_⟩
  obtain ⟨ad, cp, hx⟩ := hx j (by simpa using hj)
  rw [List.getElem_map] at hx
  exact ⟨ad, cp, hx⟩
theorem plain_data_le (o : Opr) : (Tr.plain o).data.length ≤ o.data.length := by
  show (if _ then _ else _ : List UInt8).length ≤ _
  split
  · exact Nat.le_refl _
  · simp
set_option maxRecDepth 100000 in
set_option maxHeartbeats 8000000 in
theorem back_main (l : List Opr) (line : List UInt8) (a : Option Addr) (cap : Nat) (w : World) (hG : Gl w) (ho : ∀ o ∈ l, o.small) (hr : RdO w (.slice a l.length cap) l) (hn : l.length ≤ 60) (ht : line.length ≤ 9000) :
    Calls Tryd.prog 5 #[.slice a l.length cap, .string (S line)] w fun e w' => e = .returned (.bool true) ∧ Below w.heap.size w w' := by
  have t1 : ¬ ((l.length : Int) > 60) := by omega
  have t2 : ¬ ((line.length : Int) > 9000) := by omega
  have hql := Tr.quo_len line
  have h12 := Lib.hid (fun W => quote_any line W (by omega))
  have h10 := fun W => unquote_pair (Tr.quo line) W (by omega)
  rw [Tr.unq_quo] at h10
  replace h10 := Lib.hid h10
  have h18 := Lib.hid (fun W hG => parse_any line W hG (by omega))
  have hps := Lib.hid (fun o h => Tr.parse_small (line := line) (o := o) (by omega) h)
  have hpb := Lib.hid (fun o h => Tr.parse_back (line := line) (o := o) h)
  have h20 := (fun W hG hr => text_any l (.slice a l.length cap) W hG ho hr (by omega))
  have hLive := Lib.hid (fun W hG => live_any W hG)
  obtain ⟨⟨s, n, er⟩, hT⟩ : ∃ R, Tr.text l = R := ⟨_, rfl⟩
  rw [hT] at h20
  replace h20 := Lib.hid h20
  have h21 : er = 0 → (∀ W, Gl W → Calls Tryd.prog 21 #[.string (S s)] W (ScrRes (l.map Tr.plain, (l.length : Int), 0) W)) ∧ n = l.length := by
    rintro rfl
    obtain ⟨e1, e2⟩ := Tr.script_text (fun o h => (ho o h).ok) hT
    obtain ⟨-, -, e3, -⟩ := Tr.textF_ok l 0 [] s n hT
    refine ⟨fun W hG => ?_, e2⟩
    have := script_any s W hG e3
    rwa [e1] at this
  replace h21 := Lib.hid h21
  replace hT := Lib.hid hT
  replace hG := Lib.hid hG
  replace hr := Lib.hid hr
  replace ho := Lib.hid ho
  clear hql
  obtain ⟨q, hq⟩ : ∃ q, Tr.quo line = q := ⟨_, rfl⟩
  rw [hq] at h12 h10
  clear hq
  go_enter Tryd.func5, Tryd.ntmps5
  go_wp2_with fail
  refine (hLive.out _ hG.out).mono ?_
  rintro e w1 ⟨rfl, hb1⟩
  have B1 := Lib.hid hb1
  clear hb1
  go_wp2_with fail
  refine (h12.out _).mono ?_
  rintro e w2 ⟨rfl, hb2⟩
  have B2 := Lib.hid (B1.out.trans (hb2.mono B1.out.size))
  clear hb2
  go_wp2_with fail
  refine (h10.out _).mono ?_
  rintro e w3 ⟨rfl, hb3⟩
  have B3 := Lib.hid (B2.out.trans (hb3.mono B2.out.size))
  clear hb3
  simp only [Option.getD_some, Option.isSome_some, if_true]
  go_wp2_with fail
  refine (h18.out _ (hG.out.below B3.out)).mono ?_
  rintro e w4 ⟨dv, rfl, od, hb4⟩
  have B4 := Lib.hid (B3.out.trans (hb4.mono B3.out.size))
  clear hb4
  have hrest : ∀ (W : World), Below w.heap.size w W → True := fun _ _ => trivial
  clear hrest
  cases hp : Tr.parse line with
  | none =>
    rw [hp] at od
    simp only [Option.getD_none, Option.isSome_none]
    obtain ⟨ad, cp, rfl⟩ := slice_form od
    have B5 := Lib.hid (B4.out.alloc B4.out.size (.cells #[.int .i64 Tr.zero.kind, .string (S Tr.zero.path), .string (S Tr.zero.dest), .int .i64 Tr.zero.off, .int .i64 Tr.zero.len, .slice ad Tr.zero.data.length cp] 44))
    replace hp := Lib.hid hp
    clear od
    go_wp2_with fail
    refine (h20.out _ (hG.out.below B5.out) (hr.out.below B5.out)).mono ?_
    rintro e v2 ⟨rfl, hb2⟩
    have C2 := Lib.hid (B5.out.trans (hb2.mono B5.out.size))
    clear hb2
    by_cases her : er = 0
    case neg =>
      have e1 : (er == 0) = false := by simpa using her
      have e2 : (er != 0) = true := by simpa using her
      replace her := Lib.hid her
      go_wp2_with fail
      go_ret
      exact ⟨rfl, C2.out⟩
    obtain ⟨g21, hnl⟩ := h21.out her
    replace g21 := Lib.hid g21
    subst her
    subst hnl
    go_wp2_with fail
    refine (g21.out _ (hG.out.below C2.out)).mono ?_
    rintro e v3 ⟨bv, rfl, rb, hb3⟩
    have C3 := Lib.hid (C2.out.trans (hb3.mono C2.out.size))
    obtain ⟨ba, bc, rfl, hab⟩ := RdO.atMap rb
    replace hab := Lib.hid hab
    clear hb3 rb
    dsimp only
    go_wp2_with fail
    go_loopw [95] (fun i wr => ∃ k : Nat, k ≤ l.length ∧ i = .int .i64 k ∧ Below v3.heap.size v3 wr) (fun i _ => l.length - (intOf i).toNat)
    case atStart => exact ⟨0, Nat.zero_le _, rfl, Below.refl _ _⟩
    case round =>
      obtain ⟨k, hk, rfl, hW⟩ := hrel
      have hsz := hW.size
      have hWw := Lib.hid (C3.out.trans (hW.mono C3.out.size))
      by_cases hlt : k < l.length
      · have hne : l ≠ [] := by intro h; rw [h] at hlt; simp at hlt
        obtain ⟨bk, o, cap', hv, hcap, hbk, hcell⟩ := hr.out.at hne
        cases hv
        obtain ⟨bk2, o2, rfl, hcap2, hbk2, hcell2⟩ := hab.out hne
        obtain ⟨ad, cp, d0, d1, d2, d3, d4, d5, hd⟩ := hcell k hlt
        obtain ⟨ad2, cp2, f0, f1, f2, f3, f4, f5, hf⟩ := hcell2 k hlt
        have hos := Lib.hid (ho.out l[k] (List.getElem_mem hlt))
        have hbkw := hWw.out
        rw [← hbkw.cell (p := ⟨bk, o + k * 6, none⟩) hbk] at d0
        rw [← hbkw.cell (p := ⟨bk, o + k * 6 + 1, none⟩) hbk] at d1
        rw [← hbkw.cell (p := ⟨bk, o + k * 6 + 2, none⟩) hbk] at d2
        rw [← hbkw.cell (p := ⟨bk, o + k * 6 + 3, none⟩) hbk] at d3
        rw [← hbkw.cell (p := ⟨bk, o + k * 6 + 4, none⟩) hbk] at d4
        rw [← hbkw.cell (p := ⟨bk, o + k * 6 + 5, none⟩) hbk] at d5
        rw [← hW.cell (p := ⟨bk2, o2 + k * 6, none⟩) hbk2] at f0
        rw [← hW.cell (p := ⟨bk2, o2 + k * 6 + 1, none⟩) hbk2] at f1
        rw [← hW.cell (p := ⟨bk2, o2 + k * 6 + 2, none⟩) hbk2] at f2
        rw [← hW.cell (p := ⟨bk2, o2 + k * 6 + 3, none⟩) hbk2] at f3
        rw [← hW.cell (p := ⟨bk2, o2 + k * 6 + 4, none⟩) hbk2] at f4
        rw [← hW.cell (p := ⟨bk2, o2 + k * 6 + 5, none⟩) hbk2] at f5
        obtain ⟨x, hx⟩ : ∃ x, l[k] = x := ⟨_, rfl⟩
        rw [hx] at d0 d1 d2 d3 d4 d5 hd f0 f1 f2 f3 f4 f5 hf hos
        replace hx := Lib.hid hx
        have hpd := plain_data_le x
        have hsame := fun W hG hr hu => same_any x (Tr.plain x) (.slice ad x.data.length cp) (.slice ad2 (Tr.plain x).data.length cp2) W hG hos.out.ok.1 hos.out.ok.1 hr hu (fun _ => by have := hos.out.data; omega) (fun _ => by have := hos.out.data; omega)
        rw [Tr.same_plain] at hsame
        have hplain := fun W hG hr => plain_any x (.slice ad x.data.length cp) W hG hos.out.ok.1 hr (fun _ => by have := hos.out.data; omega)
        have hexact := fun dv W hr hu => exact_any (Tr.plain x) (Tr.plain x) (.slice ad2 (Tr.plain x).data.length cp2) dv W hr hu
        rw [Tr.eqB_self] at hexact
        obtain ⟨y, hy⟩ : ∃ y, Tr.plain x = y := ⟨_, rfl⟩
        rw [hy] at f0 f1 f2 f3 f4 f5 hf hsame hplain hexact
        clear hy hpd
        replace hd := Lib.hid (hd.below hbkw)
        replace hf := Lib.hid (hf.below hW)
        replace hcell := Lib.hid hcell
        replace hcell2 := Lib.hid hcell2
        clear hne hcell hcell2 hbkw
        obtain ⟨xk, xp, xt, xf, xn, xl⟩ := x
        obtain ⟨yk, yp, yt, yf, yn, yl⟩ := y
        unfold opV at hsame hplain hexact
        dsimp only at d0 d1 d2 d3 d4 d5 f0 f1 f2 f3 f4 f5 hsame hplain hexact
        have hplain' : ∀ W : World, Gl W → RdB W (.slice ad xl.length cp) xl → Calls Tryd.prog 24 #[.agg #[.int .i64 xk, .string (S xp), .string (S xt), .int .i64 xf, .int .i64 xn, .slice ad xl.length cp]] W fun e w' => ∃ ad3 cp3, e = .returned (.agg #[.int .i64 yk, .string (S yp), .string (S yt), .int .i64 yf, .int .i64 yn, .slice ad3 yl.length cp3]) ∧ RdB w' (.slice ad3 yl.length cp3) yl ∧ Below W.heap.size W w' := fun W hG hr => (hplain W hG hr).mono fun e w' ⟨dv, he, hr2, hb2⟩ => by
          obtain ⟨ad3, cp3, rfl⟩ := hr2.len
          exact ⟨ad3, cp3, he, hr2, hb2⟩
        clear hplain
        replace hsame := Lib.hid hsame
        have hplain := Lib.hid hplain'
        clear hplain'
        replace hexact := Lib.hid hexact
        have hal : Below wr.heap.size wr (wr.alloc (.cells #[.int .i64 xk, .string (S xp), .string (S xt), .int .i64 xf, .int .i64 xn, .slice ad xl.length cp] 44)) := (Below.refl _ _).alloc (Nat.le_refl _) _
        have hl2 := Nat.lt_of_lt_of_le hbk2 hsz
        have hX := Box.new wr 44 #[.int .i64 xk, .string (S xp), .string (S xt), .int .i64 xf, .int .i64 xn, .slice ad xl.length cp]
        have hV := Lib.hid (hW.trans (hal.mono hsz))
        replace hWw := Lib.hid (hWw.out.trans (hal.mono hWw.out.size))
        have rd := Lib.hid (hd.out.below hal)
        have rf := Lib.hid (hf.out.below hal)
        go_upto_region 22 with fail
        have g0 := (hal.cell (p := ⟨bk2, o2 + k * 6, none⟩) hl2).trans f0
        have g1 := (hal.cell (p := ⟨bk2, o2 + k * 6 + 1, none⟩) hl2).trans f1
        have g2 := (hal.cell (p := ⟨bk2, o2 + k * 6 + 2, none⟩) hl2).trans f2
        have g3 := (hal.cell (p := ⟨bk2, o2 + k * 6 + 3, none⟩) hl2).trans f3
        have g4 := (hal.cell (p := ⟨bk2, o2 + k * 6 + 4, none⟩) hl2).trans f4
        have g5 := (hal.cell (p := ⟨bk2, o2 + k * 6 + 5, none⟩) hl2).trans f5
        have hlw : wr.heap.size < (wr.alloc (.cells #[.int .i64 xk, .string (S xp), .string (S xt), .int .i64 xf, .int .i64 xn, .slice ad xl.length cp] 44)).heap.size := by rw [World.size_alloc]; omega
        clear d0 d1 d2 d3 d4 d5 f0 f1 f2 f3 f4 f5 hd hf hal hW
        have x0 := hX.get 0 _ rfl
        have x1 := hX.get 1 _ rfl
        have x2 := hX.get 2 _ rfl
        have x3 := hX.get 3 _ rfl
        have x4 := hX.get 4 _ rfl
        have x5 := hX.get 5 _ rfl
        clear hX
        generalize wr.alloc (.cells #[.int .i64 xk, .string (S xp), .string (S xt), .int .i64 xf, .int .i64 xn, .slice ad xl.length cp] 44) = W at g0 g1 g2 g3 g4 g5 x0 x1 x2 x3 x4 x5 hV hWw rd rf hlw ⊢
        generalize wr.heap.size = bx at hl2 hlw x0 x1 x2 x3 x4 x5 ⊢
        have hI0 : (0 : Int) ≤ (k : Int) := by omega
        have hI1 : (k : Int) < (l.length : Int) := by omega
        have z2 : bk2 < W.heap.size := by omega
        have D0 := (Below.refl W.heap.size W).drew
        have u0 := Lib.hid (hWw.out.drew : Below w.heap.size w W.drew)
        have vu0 := Lib.hid (hV.out.drew : Below v3.heap.size v3 W.drew)
        have rd0 := Lib.hid (rd.out.below D0)
        have rf0 := Lib.hid (rf.out.below D0)
        have hS1 := Lib.hid (hsame.out W.drew (hG.out.below u0.out) rd0.out rf0.out)
        clear D0 hV hWw rd rf hl2
        go_region_held3 (fun w' => w'.cell? ⟨bx, 0, none⟩ = some (.int .i64 xk) ∧ w'.cell? ⟨bx, 1, none⟩ = some (.string (S xp)) ∧ w'.cell? ⟨bx, 2, none⟩ = some (.string (S xt)) ∧ w'.cell? ⟨bx, 3, none⟩ = some (.int .i64 xf) ∧ w'.cell? ⟨bx, 4, none⟩ = some (.int .i64 xn) ∧ w'.cell? ⟨bx, 5, none⟩ = some (.slice ad xl.length cp) ∧
            w'.cell? ⟨bk2, o2 + k * 6, none⟩ = some (.int .i64 yk) ∧ w'.cell? ⟨bk2, o2 + k * 6 + 1, none⟩ = some (.string (S yp)) ∧ w'.cell? ⟨bk2, o2 + k * 6 + 2, none⟩ = some (.string (S yt)) ∧ w'.cell? ⟨bk2, o2 + k * 6 + 3, none⟩ = some (.int .i64 yf) ∧ w'.cell? ⟨bk2, o2 + k * 6 + 4, none⟩ = some (.int .i64 yn) ∧ w'.cell? ⟨bk2, o2 + k * 6 + 5, none⟩ = some (.slice ad2 yl.length cp2))
          (((try dsimp only); (repeat' apply And.intro) <;> ((repeat (first | rw [hc3.cell (by show (_ : Nat) < y2.heap.size; dsimp only; omega)] | rw [hc2.cell (by show (_ : Nat) < y1.heap.size; dsimp only; omega)] | rw [hc1.cell (by show (_ : Nat) < W.heap.size; dsimp only; omega)])); first | exact x0 | exact x1 | exact x2 | exact x3 | exact x4 | exact x5 | exact g0 | exact g1 | exact g2 | exact g3 | exact g4 | exact g5)))
          (first
            | (go_at_call 22; (with_reducible refine hS1.out.mono ?_); rintro e y1 ⟨rfl, hc1⟩; have z1 : W.heap.size ≤ y1.heap.size := hc1.size; have u1 := Lib.hid (u0.out.trans (hc1.mono u0.out.size)); have vu1 := Lib.hid (vu0.out.trans (hc1.mono vu0.out.size)); have rd1 := Lib.hid (rd0.out.below hc1); have rf1 := Lib.hid (rf0.out.below hc1))
            | (go_at_call 24; refine (hplain.out _ (hG.out.below u1.out) rd1.out).mono ?_; rintro e y2 ⟨ad3, cp3, rfl, rp2, hc2⟩; have z3 : y1.heap.size ≤ y2.heap.size := hc2.size; have u2 := Lib.hid (u1.out.trans (hc2.mono u1.out.size)); have vu2 := Lib.hid (vu1.out.trans (hc2.mono vu1.out.size)); have rf2 := Lib.hid (rf1.out.below hc2); replace rp2 := Lib.hid rp2)
            | (go_at_call 23; refine (hexact.out _ _ rf2.out rp2.out).mono ?_; rintro e y3 ⟨rfl, hc3⟩; have z4 : y2.heap.size ≤ y3.heap.size := hc3.size; have u3 := Lib.hid (u2.out.trans (hc3.mono u2.out.size)); have vu3 := Lib.hid (vu2.out.trans (hc3.mono vu2.out.size))))
        all_goals
          go_wp2_with fail
          go_roundw
          case rel => exact ⟨k + 1, by omega, by go_num, vu3.out⟩
          case measure => simp [intOf]; omega
      · go_wp2_with fail
        go_ret
        exact ⟨rfl, hWw.out⟩
  | some op =>
    rw [hp] at od
    simp only [Option.getD_some, Option.isSome_some, if_true]
    have hsm := hps.out op hp
    have hpl := hpb.out op hp
    have hpr := fun W hG hr => print_smallAny op hsm dv W hG hr
    rw [hpl] at hpr
    replace hpr := Lib.hid hpr
    replace hp := Lib.hid hp
    replace hpl := Lib.hid hpl
    have rd := Rd.of_own (enc := byteV) (xs := op.data) od
    obtain ⟨ad, cp, rfl⟩ := slice_form od
    replace hsm := Lib.hid hsm
    obtain ⟨xk, xp, xt, xf, xn, xl⟩ := op
    dsimp only at hpr rd od ⊢
    have hal : Below w4.heap.size w4 (w4.alloc (.cells #[.int .i64 xk, .string (S xp), .string (S xt), .int .i64 xf, .int .i64 xn, .slice ad xl.length cp] 44)) := (Below.refl _ _).alloc (Nat.le_refl _) _
    have B5 := Lib.hid (B4.out.trans (hal.mono B4.out.size))
    have rd5 := Lib.hid (rd.below hal)
    clear od rd hal
    go_wp2_with fail
    refine (hpr.out _ (hG.out.below B5.out) rd5.out).mono ?_
    rintro e w5 ⟨rfl, hb5⟩
    have B6 := Lib.hid (B5.out.trans (hb5.mono B5.out.size))
    clear hb5
    dsimp only
    go_wp2_with fail
    refine (h20.out _ (hG.out.below B6.out) (hr.out.below B6.out)).mono ?_
    rintro e v2 ⟨rfl, hb2⟩
    have C2 := Lib.hid (B6.out.trans (hb2.mono B6.out.size))
    clear hb2
    by_cases her : er = 0
    case neg =>
      have e1 : (er == 0) = false := by simpa using her
      have e2 : (er != 0) = true := by simpa using her
      replace her := Lib.hid her
      go_wp2_with fail
      go_ret
      exact ⟨rfl, C2.out⟩
    obtain ⟨g21, hnl⟩ := h21.out her
    replace g21 := Lib.hid g21
    subst her
    subst hnl
    go_wp2_with fail
    refine (g21.out _ (hG.out.below C2.out)).mono ?_
    rintro e v3 ⟨bv, rfl, rb, hb3⟩
    have C3 := Lib.hid (C2.out.trans (hb3.mono C2.out.size))
    obtain ⟨ba, bc, rfl, hab⟩ := RdO.atMap rb
    replace hab := Lib.hid hab
    clear hb3 rb
    dsimp only
    go_wp2_with fail
    go_loopw [95] (fun i wr => ∃ k : Nat, k ≤ l.length ∧ i = .int .i64 k ∧ Below v3.heap.size v3 wr) (fun i _ => l.length - (intOf i).toNat)
    case atStart => exact ⟨0, Nat.zero_le _, rfl, Below.refl _ _⟩
    case round =>
      obtain ⟨k, hk, rfl, hW⟩ := hrel
      have hsz := hW.size
      have hWw := Lib.hid (C3.out.trans (hW.mono C3.out.size))
      by_cases hlt : k < l.length
      · have hne : l ≠ [] := by intro h; rw [h] at hlt; simp at hlt
        obtain ⟨bk, o, cap', hv, hcap, hbk, hcell⟩ := hr.out.at hne
        cases hv
        obtain ⟨bk2, o2, rfl, hcap2, hbk2, hcell2⟩ := hab.out hne
        obtain ⟨ad, cp, d0, d1, d2, d3, d4, d5, hd⟩ := hcell k hlt
        obtain ⟨ad2, cp2, f0, f1, f2, f3, f4, f5, hf⟩ := hcell2 k hlt
        have hos := Lib.hid (ho.out l[k] (List.getElem_mem hlt))
        have hbkw := hWw.out
        rw [← hbkw.cell (p := ⟨bk, o + k * 6, none⟩) hbk] at d0
        rw [← hbkw.cell (p := ⟨bk, o + k * 6 + 1, none⟩) hbk] at d1
        rw [← hbkw.cell (p := ⟨bk, o + k * 6 + 2, none⟩) hbk] at d2
        rw [← hbkw.cell (p := ⟨bk, o + k * 6 + 3, none⟩) hbk] at d3
        rw [← hbkw.cell (p := ⟨bk, o + k * 6 + 4, none⟩) hbk] at d4
        rw [← hbkw.cell (p := ⟨bk, o + k * 6 + 5, none⟩) hbk] at d5
        rw [← hW.cell (p := ⟨bk2, o2 + k * 6, none⟩) hbk2] at f0
        rw [← hW.cell (p := ⟨bk2, o2 + k * 6 + 1, none⟩) hbk2] at f1
        rw [← hW.cell (p := ⟨bk2, o2 + k * 6 + 2, none⟩) hbk2] at f2
        rw [← hW.cell (p := ⟨bk2, o2 + k * 6 + 3, none⟩) hbk2] at f3
        rw [← hW.cell (p := ⟨bk2, o2 + k * 6 + 4, none⟩) hbk2] at f4
        rw [← hW.cell (p := ⟨bk2, o2 + k * 6 + 5, none⟩) hbk2] at f5
        obtain ⟨x, hx⟩ : ∃ x, l[k] = x := ⟨_, rfl⟩
        rw [hx] at d0 d1 d2 d3 d4 d5 hd f0 f1 f2 f3 f4 f5 hf hos
        replace hx := Lib.hid hx
        have hpd := plain_data_le x
        have hsame := fun W hG hr hu => same_any x (Tr.plain x) (.slice ad x.data.length cp) (.slice ad2 (Tr.plain x).data.length cp2) W hG hos.out.ok.1 hos.out.ok.1 hr hu (fun _ => by have := hos.out.data; omega) (fun _ => by have := hos.out.data; omega)
        rw [Tr.same_plain] at hsame
        have hplain := fun W hG hr => plain_any x (.slice ad x.data.length cp) W hG hos.out.ok.1 hr (fun _ => by have := hos.out.data; omega)
        have hexact := fun dv W hr hu => exact_any (Tr.plain x) (Tr.plain x) (.slice ad2 (Tr.plain x).data.length cp2) dv W hr hu
        rw [Tr.eqB_self] at hexact
        obtain ⟨y, hy⟩ : ∃ y, Tr.plain x = y := ⟨_, rfl⟩
        rw [hy] at f0 f1 f2 f3 f4 f5 hf hsame hplain hexact
        clear hy hpd
        replace hd := Lib.hid (hd.below hbkw)
        replace hf := Lib.hid (hf.below hW)
        replace hcell := Lib.hid hcell
        replace hcell2 := Lib.hid hcell2
        clear hne hcell hcell2 hbkw
        obtain ⟨xk, xp, xt, xf, xn, xl⟩ := x
        obtain ⟨yk, yp, yt, yf, yn, yl⟩ := y
        unfold opV at hsame hplain hexact
        dsimp only at d0 d1 d2 d3 d4 d5 f0 f1 f2 f3 f4 f5 hsame hplain hexact
        have hplain' : ∀ W : World, Gl W → RdB W (.slice ad xl.length cp) xl → Calls Tryd.prog 24 #[.agg #[.int .i64 xk, .string (S xp), .string (S xt), .int .i64 xf, .int .i64 xn, .slice ad xl.length cp]] W fun e w' => ∃ ad3 cp3, e = .returned (.agg #[.int .i64 yk, .string (S yp), .string (S yt), .int .i64 yf, .int .i64 yn, .slice ad3 yl.length cp3]) ∧ RdB w' (.slice ad3 yl.length cp3) yl ∧ Below W.heap.size W w' := fun W hG hr => (hplain W hG hr).mono fun e w' ⟨dv, he, hr2, hb2⟩ => by
          obtain ⟨ad3, cp3, rfl⟩ := hr2.len
          exact ⟨ad3, cp3, he, hr2, hb2⟩
        clear hplain
        replace hsame := Lib.hid hsame
        have hplain := Lib.hid hplain'
        clear hplain'
        replace hexact := Lib.hid hexact
        have hal : Below wr.heap.size wr (wr.alloc (.cells #[.int .i64 xk, .string (S xp), .string (S xt), .int .i64 xf, .int .i64 xn, .slice ad xl.length cp] 44)) := (Below.refl _ _).alloc (Nat.le_refl _) _
        have hl2 := Nat.lt_of_lt_of_le hbk2 hsz
        have hX := Box.new wr 44 #[.int .i64 xk, .string (S xp), .string (S xt), .int .i64 xf, .int .i64 xn, .slice ad xl.length cp]
        have hV := Lib.hid (hW.trans (hal.mono hsz))
        replace hWw := Lib.hid (hWw.out.trans (hal.mono hWw.out.size))
        have rd := Lib.hid (hd.out.below hal)
        have rf := Lib.hid (hf.out.below hal)
        go_upto_region 22 with fail
        have g0 := (hal.cell (p := ⟨bk2, o2 + k * 6, none⟩) hl2).trans f0
        have g1 := (hal.cell (p := ⟨bk2, o2 + k * 6 + 1, none⟩) hl2).trans f1
        have g2 := (hal.cell (p := ⟨bk2, o2 + k * 6 + 2, none⟩) hl2).trans f2
        have g3 := (hal.cell (p := ⟨bk2, o2 + k * 6 + 3, none⟩) hl2).trans f3
        have g4 := (hal.cell (p := ⟨bk2, o2 + k * 6 + 4, none⟩) hl2).trans f4
        have g5 := (hal.cell (p := ⟨bk2, o2 + k * 6 + 5, none⟩) hl2).trans f5
        have hlw : wr.heap.size < (wr.alloc (.cells #[.int .i64 xk, .string (S xp), .string (S xt), .int .i64 xf, .int .i64 xn, .slice ad xl.length cp] 44)).heap.size := by rw [World.size_alloc]; omega
        clear d0 d1 d2 d3 d4 d5 f0 f1 f2 f3 f4 f5 hd hf hal hW
        have x0 := hX.get 0 _ rfl
        have x1 := hX.get 1 _ rfl
        have x2 := hX.get 2 _ rfl
        have x3 := hX.get 3 _ rfl
        have x4 := hX.get 4 _ rfl
        have x5 := hX.get 5 _ rfl
        clear hX
        generalize wr.alloc (.cells #[.int .i64 xk, .string (S xp), .string (S xt), .int .i64 xf, .int .i64 xn, .slice ad xl.length cp] 44) = W at g0 g1 g2 g3 g4 g5 x0 x1 x2 x3 x4 x5 hV hWw rd rf hlw ⊢
        generalize wr.heap.size = bx at hl2 hlw x0 x1 x2 x3 x4 x5 ⊢
        have hI0 : (0 : Int) ≤ (k : Int) := by omega
        have hI1 : (k : Int) < (l.length : Int) := by omega
        have z2 : bk2 < W.heap.size := by omega
        have D0 := (Below.refl W.heap.size W).drew
        have u0 := Lib.hid (hWw.out.drew : Below w.heap.size w W.drew)
        have vu0 := Lib.hid (hV.out.drew : Below v3.heap.size v3 W.drew)
        have rd0 := Lib.hid (rd.out.below D0)
        have rf0 := Lib.hid (rf.out.below D0)
        have hS1 := Lib.hid (hsame.out W.drew (hG.out.below u0.out) rd0.out rf0.out)
        clear D0 hV hWw rd rf hl2
        go_region_held3 (fun w' => w'.cell? ⟨bx, 0, none⟩ = some (.int .i64 xk) ∧ w'.cell? ⟨bx, 1, none⟩ = some (.string (S xp)) ∧ w'.cell? ⟨bx, 2, none⟩ = some (.string (S xt)) ∧ w'.cell? ⟨bx, 3, none⟩ = some (.int .i64 xf) ∧ w'.cell? ⟨bx, 4, none⟩ = some (.int .i64 xn) ∧ w'.cell? ⟨bx, 5, none⟩ = some (.slice ad xl.length cp) ∧
            w'.cell? ⟨bk2, o2 + k * 6, none⟩ = some (.int .i64 yk) ∧ w'.cell? ⟨bk2, o2 + k * 6 + 1, none⟩ = some (.string (S yp)) ∧ w'.cell? ⟨bk2, o2 + k * 6 + 2, none⟩ = some (.string (S yt)) ∧ w'.cell? ⟨bk2, o2 + k * 6 + 3, none⟩ = some (.int .i64 yf) ∧ w'.cell? ⟨bk2, o2 + k * 6 + 4, none⟩ = some (.int .i64 yn) ∧ w'.cell? ⟨bk2, o2 + k * 6 + 5, none⟩ = some (.slice ad2 yl.length cp2))
          (((try dsimp only); (repeat' apply And.intro) <;> ((repeat (first | rw [hc3.cell (by show (_ : Nat) < y2.heap.size; dsimp only; omega)] | rw [hc2.cell (by show (_ : Nat) < y1.heap.size; dsimp only; omega)] | rw [hc1.cell (by show (_ : Nat) < W.heap.size; dsimp only; omega)])); first | exact x0 | exact x1 | exact x2 | exact x3 | exact x4 | exact x5 | exact g0 | exact g1 | exact g2 | exact g3 | exact g4 | exact g5)))
          (first
            | (go_at_call 22; (with_reducible refine hS1.out.mono ?_); rintro e y1 ⟨rfl, hc1⟩; have z1 : W.heap.size ≤ y1.heap.size := hc1.size; have u1 := Lib.hid (u0.out.trans (hc1.mono u0.out.size)); have vu1 := Lib.hid (vu0.out.trans (hc1.mono vu0.out.size)); have rd1 := Lib.hid (rd0.out.below hc1); have rf1 := Lib.hid (rf0.out.below hc1))
            | (go_at_call 24; refine (hplain.out _ (hG.out.below u1.out) rd1.out).mono ?_; rintro e y2 ⟨ad3, cp3, rfl, rp2, hc2⟩; have z3 : y1.heap.size ≤ y2.heap.size := hc2.size; have u2 := Lib.hid (u1.out.trans (hc2.mono u1.out.size)); have vu2 := Lib.hid (vu1.out.trans (hc2.mono vu1.out.size)); have rf2 := Lib.hid (rf1.out.below hc2); replace rp2 := Lib.hid rp2)
            | (go_at_call 23; refine (hexact.out _ _ rf2.out rp2.out).mono ?_; rintro e y3 ⟨rfl, hc3⟩; have z4 : y2.heap.size ≤ y3.heap.size := hc3.size; have u3 := Lib.hid (u2.out.trans (hc3.mono u2.out.size)); have vu3 := Lib.hid (vu2.out.trans (hc3.mono vu2.out.size))))
        all_goals
          go_wp2_with fail
          go_roundw
          case rel => exact ⟨k + 1, by omega, by go_num, vu3.out⟩
          case measure => simp [intOf]; omega
      · go_wp2_with fail
        go_ret
        exact ⟨rfl, hWw.out⟩
end Go.Proofs.YtpoongljokbgcaaDoor
