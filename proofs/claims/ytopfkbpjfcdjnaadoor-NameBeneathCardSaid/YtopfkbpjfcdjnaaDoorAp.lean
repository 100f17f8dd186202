/- NameBeneath returns true. -/
import Derived.Test.YtopfkbpjfcdjnaaDoorAo
namespace Go.Proofs.YtopfkbpjfcdjnaaDoor
open Go.RowKit
set_option maxRecDepth 100000 in
set_option maxHeartbeats 4000000 in
theorem beneath_any (p : List UInt8) (w : World) (hG : Gl w) (hE : ErrT w) :
    Calls Tryd.prog 7 #[.string (S p)] w fun e w' => e = .returned (.bool true) ∧ Below w.heap.size w w' := by
  have hlive := Lib.hid (live_any w hG hE)
  have h22 := Lib.hid (fun W hG => parent_any p W hG)
  have h24 := Lib.hid (fun W hG => ways_any p W hG)
  have hP1 := Lib.hid (Nm.ways_under p)
  have hP2 := Lib.hid (Nm.ways_ends p)
  have hwl := Lib.hid (ways_len p)
  obtain ⟨ys, hys⟩ : ∃ ys, Nm.ways p = ys := ⟨_, rfl⟩
  rw [hys] at h24 hwl
  have hP1 := Lib.hid (fun i k (hi : i < ys.length) (hk : k < ys.length) => (by subst hys; exact hP1.out i k hi hk : Nm.under ys[i] ys[k] = decide (k ≤ i)))
  have hP2 := Lib.hid (fun (h : 0 < ys.length) => (by subst hys; exact hP2.out h : ys[0] = [47] ∧ ys[ys.length - 1] = p))
  clear hE
  replace hys := Lib.hid hys
  replace hG := Lib.hid hG
  by_cases hpe : (Nm.parent p).2.2 = 0
  case neg =>
    obtain ⟨⟨pa, pb, pn⟩, hp⟩ : ∃ r, Nm.parent p = r := ⟨_, rfl⟩
    rw [hp] at h22 hpe
    simp only at hpe
    have n1 : (pn == 0) = false := by simpa using hpe
    replace hp := Lib.hid hp
    go_enter Tryd.func7, Tryd.ntmps7
    go_wp2_with fail
    refine hlive.out.mono ?_
    rintro e w1 ⟨rfl, hb1⟩
    replace hb1 := Lib.hid hb1
    go_wp2_with fail
    refine (h22.out w1 (hG.out.below hb1.out)).mono ?_
    rintro e w2 ⟨rfl, hb⟩
    have hB2 := Lib.hid (hb1.out.trans (hb.mono hb1.out.size))
    clear hb
    go_wp2_with fail
    refine (h24.out w2 (hG.out.below hB2.out)).mono ?_
    intro e w8 h9
    obtain ⟨y1, rfl, hy1, hb⟩ := ownTexts_rd h9
    clear h9
    have hB8 := Lib.hid (hB2.out.trans (hb.mono hB2.out.size))
    clear hb
    obtain ⟨a, cap, hv⟩ := hy1.len
    have hcap : ys.length ≤ cap := by
      obtain ⟨a', c', q1, q2, _⟩ := hy1
      rw [hv] at q1; cases q1; exact q2
    subst hv
    replace hy1 := Lib.hid hy1
    have c1 : (0 : Int) ≤ min (ys.length : Int) 24 := by omega
    have c2 : min (ys.length : Int) 24 ≤ cap := by omega
    go_wp2_with fail
    obtain ⟨mm, hmm⟩ : ∃ mm : Nat, min ys.length 24 = mm := ⟨_, rfl⟩
    have e1 : max (min (ys.length : Int) 24) 0 = (mm : Int) := by omega
    have e2 : (min (ys.length : Int) 24).toNat = mm := by omega
    have hml : mm ≤ ys.length := by omega
    have hmc : mm ≤ cap := by omega
    have hm24 : mm ≤ 24 := by omega
    rw [e1, e2]
    clear e1 e2 c1 c2
    replace hmm := Lib.hid hmm
    go_loopw [70] (fun i wr => ∃ k : Nat, k ≤ mm ∧ i = .int .i64 k ∧ Below w8.heap.size w8 wr) (fun i _ => mm - (intOf i).toNat)
    case atStart => exact ⟨0, Nat.zero_le _, rfl, Below.refl _ _⟩
    case round =>
      obtain ⟨i, hi, rfl, hW⟩ := hrel
      by_cases hlt : i < mm
      · obtain ⟨b1, o1, q1, hv1, _, _, g1⟩ := (hy1.out.below hW).at (by intro e; rw [e] at hml; simp at hml; omega)
        cases hv1
        have d1 := g1 i (by omega)
        clear g1
        have hil : i < ys.length := by omega
        have hun := Lib.hid (fun k (hk : k < ys.length) => hP1.out i k hil hk)
        obtain ⟨x, hx⟩ : ∃ x, ys[i] = x := ⟨_, rfl⟩
        rw [hx] at d1 hun
        unfold strV at d1
        replace hx := Lib.hid hx
        replace hW := Lib.hid hW
        go_wp2_with fail
        go_loopw [77] (fun j wr => ∃ k : Nat, k ≤ mm ∧ j = .int .i64 k ∧ Below w8.heap.size w8 wr) (fun j _ => mm - (intOf j).toNat)
        case atStart => exact ⟨0, Nat.zero_le _, rfl, hW.out⟩
        case round =>
          obtain ⟨k, hk, rfl, hW2⟩ := hrel
          have hGr := hG.out.below (hB8.out.trans (hW2.mono hB8.out.size))
          by_cases hlt2 : k < mm
          · obtain ⟨b2, o2, q2, hv2, _, _, g2⟩ := (hy1.out.below hW2).at (by intro e; rw [e] at hml; simp at hml; omega)
            cases hv2
            have d2 := g2 k (by omega)
            clear g2
            have hkl : k < ys.length := by omega
            have hu := hun.out k hkl
            obtain ⟨z, hz⟩ : ∃ z, ys[k] = z := ⟨_, rfl⟩
            rw [hz] at d2 hu
            unfold strV at d2
            replace hz := Lib.hid hz
            have hc := under_any x z
            rw [hu] at hc
            replace hu := Lib.hid hu
            have hc' := Lib.hid (hc wr hGr)
            clear hc hGr
            have hsz := hW2.size
            replace hW2 := Lib.hid hW2
            by_cases hki : k ≤ i
            · have hki' : (k : Int) ≤ i := by omega
              have hd : decide (k ≤ i) = true := by simpa using hki
              rw [hd] at hc'
              go_wp2_with (go_at_call 23; refine hc'.out.mono ?_; rintro e w9 ⟨rfl, hb9⟩)
              go_roundw
              case rel => exact ⟨k + 1, by omega, by go_num, hW2.out.trans (hb9.mono hsz)⟩
              case measure => simp [intOf]; omega
            · have hki' : ¬ (k : Int) ≤ i := by omega
              have hd : decide (k ≤ i) = false := by simpa using hki
              rw [hd] at hc'
              go_wp2_with (go_at_call 23; refine hc'.out.mono ?_; rintro e w9 ⟨rfl, hb9⟩)
              go_roundw
              case rel => exact ⟨k + 1, by omega, by go_num, hW2.out.trans (hb9.mono hsz)⟩
              case measure => simp [intOf]; omega
          · go_wp2_with fail
            go_roundw
            case rel => exact ⟨i + 1, by omega, by go_num, hW2⟩
            case measure => simp [intOf]; omega
      · by_cases h0 : ys.length = 0
        · have z0 : ((ys.length : Int) == 0) = true := by rw [h0]; rfl
          go_wp2_with fail
          go_ret
          exact ⟨rfl, hB8.out.trans (hW.mono hB8.out.size)⟩
        · have z0 : ((ys.length : Int) == 0) = false := by rw [beq_eq_false_iff_ne]; omega
          obtain ⟨b1, o1, q1, hv1, _, _, g1⟩ := (hy1.out.below hW).at (by intro e; rw [e] at h0; exact h0 rfl)
          cases hv1
          have hpos : 0 < ys.length := by omega
          obtain ⟨p1, p2⟩ := hP2.out hpos
          have d1 := g1 0 hpos
          have d2 := g1 (ys.length - 1) (by omega)
          clear g1
          rw [p1] at d1
          rw [p2] at d2
          unfold strV at d1 d2
          rw [Nat.add_zero] at d1
          have i0 : (0 : Int) ≤ (ys.length : Int) - 1 := by omega
          have i1 : (ys.length : Int) - 1 < ys.length := by omega
          have hll : ys.length ≤ 514 := hwl.out
          go_wp2_with fail
          go_ret
          exact ⟨rfl, hB8.out.trans (hW.mono hB8.out.size)⟩
  obtain ⟨xs, hx, hsp, hpar⟩ := Nm.parent_ok hpe
  clear hpe
  have hpos : 0 < xs.length := List.length_pos_iff.2 hx
  have hjn := Nm.join_split hsp
  have hsd := Nm.split_join (Nm.join_take hsp (xs.length - 1))
  have hu1 := Nm.under_eq p (Nm.upto (xs.take (xs.length - 1)))
  have hu2 := Nm.under_eq (Nm.upto (xs.take (xs.length - 1))) p
  rw [hsp, hsd] at hu1 hu2
  have hu1' : Nm.under p (Nm.upto (xs.take (xs.length - 1))) = true := by
    rw [hu1]; simp [List.take_prefix]
  have hu2' : Nm.under (Nm.upto (xs.take (xs.length - 1))) p = false := by
    rw [hu2]
    simp only [true_and, decide_eq_false_iff_not]
    intro h; have := h.length_le; rw [List.length_take] at this; omega
  rw [hpar] at h22
  have hxl := Nm.split_fst_len p
  have hsn := splitJoin_names p xs hsp
  rw [hsp] at hxl
  simp only at hxl
  have h20 := Lib.hid (fun W hG => split_own (Nm.upto (xs.take (xs.length - 1))) W hG)
  rw [hsd] at h20
  have hUa := under_any p (Nm.upto (xs.take (xs.length - 1)))
  have hUb := under_any (Nm.upto (xs.take (xs.length - 1))) p
  rw [hu1'] at hUa
  rw [hu2'] at hUb
  obtain ⟨k, hk⟩ : ∃ k, xs.length - 1 = k := ⟨_, rfl⟩
  have hkl : xs.length = k + 1 := by omega
  have hxk : xs.take k ++ [xs[k]'(by omega)] = xs := by
    have := List.take_succ_eq_append_getElem (l := xs) (i := k) (by omega)
    rw [← this, ← hkl, List.take_length]
  have htl : (xs.take k).length = k := by rw [List.length_take]; omega
  simp only [hk] at h22 h20 hUa hUb
  obtain ⟨up, hup⟩ : ∃ up, Nm.upto (xs.take k) = up := ⟨_, rfl⟩
  obtain ⟨x, hxx⟩ : ∃ x, xs[k]'(by omega) = x := ⟨_, rfl⟩
  simp only [hup, hxx] at h22 h20 hUa hUb hxk
  have hk5 : k ≤ 512 := by omega
  have hown' : ∀ (W : World) (B : Nat) (v : Value), W.ownsRow B 9 1 v (k + 1) ((xs.take k).map strV ++ [.string (S x)]) → Calls Tryd.prog 11 #[v] W (JoinRes (p, 0) W) := by
    intro W B v ho
    refine hsn v W (Rd.of_own (B := B) (e := 9) ?_)
    rw [hkl]
    have : xs.map strV = (xs.take k).map strV ++ [.string (S x)] := by
      conv => lhs; rw [← hxk]
      rw [List.map_append]; rfl
    rw [this]; exact ho
  replace hown' := Lib.hid hown'
  replace hUa := Lib.hid hUa
  replace hUb := Lib.hid hUb
  obtain ⟨i0, hi0, hz0, hz1, hz2⟩ := info_parts infoStr
  clear hx hpos hjn hsd hu1 hu2 hu1' hu2' hxl hsn hk hkl hxk hup hxx hsp hpar
  replace htl := Lib.hid htl
  go_enter Tryd.func7, Tryd.ntmps7
  go_wp2_with fail
  refine hlive.out.mono ?_
  rintro e w1 ⟨rfl, hb1⟩
  replace hb1 := Lib.hid hb1
  go_wp2_with fail
  refine (h22.out w1 (hG.out.below hb1.out)).mono ?_
  rintro e w2 ⟨rfl, hb⟩
  have hB2 := Lib.hid (hb1.out.trans (hb.mono hb1.out.size))
  clear hb
  go_wp2_with fail
  refine (h20.out w2 (hG.out.below hB2.out)).mono ?_
  rintro e w3 ⟨v, rfl, hown, hb⟩
  replace hown : w3.ownsRow w2.heap.size 9 1 v (xs.take k).length ((xs.take k).map strV) := hown
  rw [htl.out] at hown
  have hsz3 := hb.size
  have hB3 := Lib.hid (hB2.out.trans (hb.mono hB2.out.size))
  replace hb := Lib.hid hb
  have hsz2 := hB2.out.size
  go_wp2_with (at_builtin; refine wpList_append_lies _ rfl _ _ 22 rfl w2.heap.size 9 i0 (.string ⟨#[]⟩) 1 16 Tryd.underlying22 hi0 hz0 hz1 hz2 rfl (by decide) _ k ((xs.take k).map strV) rfl (hown.alloc _) ⟨w3.heap.size, 0, none⟩ 1 1 [.string (S x)] rfl rfl (World.news_of_block (heap_alloc_new w3 (.cells #[.string (S x)] 9))) (by simp [Value.oneCell']) (by omega) (by unfold maxLen; omega) (by omega) (by rw [World.size_alloc]; omega) _ rfl ?_; intro vg vc w4 hown4 hgrow _ _)
  refine (hown'.out _ _ _ hown4).mono ?_
  rintro e w5 ⟨rfl, hb5⟩
  have hB4 := Lib.hid ((hB3.out.alloc hB3.out.size (.cells #[.string (S x)] 9)).grown hgrow (by rw [World.size_alloc]; omega) (fun k hk => Nat.le_trans hsz2 (hown.lt k hk).1))
  have hB5 := Lib.hid (hB4.out.trans (hb5.mono hB4.out.size))
  clear hb5
  go_wp2_with fail
  refine (hUa.out w5 (hG.out.below hB5.out)).mono ?_
  rintro e w6 ⟨rfl, hb6⟩
  have hB6 := Lib.hid (hB5.out.trans (hb6.mono hB5.out.size))
  clear hb6
  go_wp2_with fail
  refine (hUb.out w6 (hG.out.below hB6.out)).mono ?_
  rintro e w7 ⟨rfl, hb7⟩
  have hB7 := Lib.hid (hB6.out.trans (hb7.mono hB6.out.size))
  clear hb7
  go_wp2_with fail
  refine (h24.out w7 (hG.out.below hB7.out)).mono ?_
  intro e w8 h9
  obtain ⟨y1, rfl, hy1, hb⟩ := ownTexts_rd h9
  clear h9
  have hB8 := Lib.hid (hB7.out.trans (hb.mono hB7.out.size))
  clear hb
  obtain ⟨a, cap, hv⟩ := hy1.len
  have hcap : ys.length ≤ cap := by
    obtain ⟨a', c', q1, q2, _⟩ := hy1
    rw [hv] at q1; cases q1; exact q2
  subst hv
  replace hy1 := Lib.hid hy1
  have c1 : (0 : Int) ≤ min (ys.length : Int) 24 := by omega
  have c2 : min (ys.length : Int) 24 ≤ cap := by omega
  go_wp2_with fail
  obtain ⟨mm, hmm⟩ : ∃ mm : Nat, min ys.length 24 = mm := ⟨_, rfl⟩
  have e1 : max (min (ys.length : Int) 24) 0 = (mm : Int) := by omega
  have e2 : (min (ys.length : Int) 24).toNat = mm := by omega
  have hml : mm ≤ ys.length := by omega
  have hmc : mm ≤ cap := by omega
  have hm24 : mm ≤ 24 := by omega
  rw [e1, e2]
  clear e1 e2 c1 c2
  replace hmm := Lib.hid hmm
  go_loopw [70] (fun i wr => ∃ k : Nat, k ≤ mm ∧ i = .int .i64 k ∧ Below w8.heap.size w8 wr) (fun i _ => mm - (intOf i).toNat)
  case atStart => exact ⟨0, Nat.zero_le _, rfl, Below.refl _ _⟩
  case round =>
    obtain ⟨i, hi, rfl, hW⟩ := hrel
    by_cases hlt : i < mm
    · obtain ⟨b1, o1, q1, hv1, _, _, g1⟩ := (hy1.out.below hW).at (by intro e; rw [e] at hml; simp at hml; omega)
      cases hv1
      have d1 := g1 i (by omega)
      clear g1
      have hil : i < ys.length := by omega
      have hun := Lib.hid (fun k (hk : k < ys.length) => hP1.out i k hil hk)
      obtain ⟨x, hx⟩ : ∃ x, ys[i] = x := ⟨_, rfl⟩
      rw [hx] at d1 hun
      unfold strV at d1
      replace hx := Lib.hid hx
      replace hW := Lib.hid hW
      go_wp2_with fail
      go_loopw [77] (fun j wr => ∃ k : Nat, k ≤ mm ∧ j = .int .i64 k ∧ Below w8.heap.size w8 wr) (fun j _ => mm - (intOf j).toNat)
      case atStart => exact ⟨0, Nat.zero_le _, rfl, hW.out⟩
      case round =>
        obtain ⟨k, hk, rfl, hW2⟩ := hrel
        have hGr := hG.out.below (hB8.out.trans (hW2.mono hB8.out.size))
        by_cases hlt2 : k < mm
        · obtain ⟨b2, o2, q2, hv2, _, _, g2⟩ := (hy1.out.below hW2).at (by intro e; rw [e] at hml; simp at hml; omega)
          cases hv2
          have d2 := g2 k (by omega)
          clear g2
          have hkl : k < ys.length := by omega
          have hu := hun.out k hkl
          obtain ⟨z, hz⟩ : ∃ z, ys[k] = z := ⟨_, rfl⟩
          rw [hz] at d2 hu
          unfold strV at d2
          replace hz := Lib.hid hz
          have hc := under_any x z
          rw [hu] at hc
          replace hu := Lib.hid hu
          have hc' := Lib.hid (hc wr hGr)
          clear hc hGr
          have hsz := hW2.size
          replace hW2 := Lib.hid hW2
          by_cases hki : k ≤ i
          · have hki' : (k : Int) ≤ i := by omega
            have hd : decide (k ≤ i) = true := by simpa using hki
            rw [hd] at hc'
            go_wp2_with (go_at_call 23; refine hc'.out.mono ?_; rintro e w9 ⟨rfl, hb9⟩)
            go_roundw
            case rel => exact ⟨k + 1, by omega, by go_num, hW2.out.trans (hb9.mono hsz)⟩
            case measure => simp [intOf]; omega
          · have hki' : ¬ (k : Int) ≤ i := by omega
            have hd : decide (k ≤ i) = false := by simpa using hki
            rw [hd] at hc'
            go_wp2_with (go_at_call 23; refine hc'.out.mono ?_; rintro e w9 ⟨rfl, hb9⟩)
            go_roundw
            case rel => exact ⟨k + 1, by omega, by go_num, hW2.out.trans (hb9.mono hsz)⟩
            case measure => simp [intOf]; omega
        · go_wp2_with fail
          go_roundw
          case rel => exact ⟨i + 1, by omega, by go_num, hW2⟩
          case measure => simp [intOf]; omega
    · by_cases h0 : ys.length = 0
      · have z0 : ((ys.length : Int) == 0) = true := by rw [h0]; rfl
        go_wp2_with fail
        go_ret
        exact ⟨rfl, hB8.out.trans (hW.mono hB8.out.size)⟩
      · have z0 : ((ys.length : Int) == 0) = false := by rw [beq_eq_false_iff_ne]; omega
        obtain ⟨b1, o1, q1, hv1, _, _, g1⟩ := (hy1.out.below hW).at (by intro e; rw [e] at h0; exact h0 rfl)
        cases hv1
        have hpos : 0 < ys.length := by omega
        obtain ⟨p1, p2⟩ := hP2.out hpos
        have d1 := g1 0 hpos
        have d2 := g1 (ys.length - 1) (by omega)
        clear g1
        rw [p1] at d1
        rw [p2] at d2
        unfold strV at d1 d2
        rw [Nat.add_zero] at d1
        have i0 : (0 : Int) ≤ (ys.length : Int) - 1 := by omega
        have i1 : (ys.length : Int) - 1 < ys.length := by omega
        have hll : ys.length ≤ 514 := hwl.out
        go_wp2_with fail
        go_ret
        exact ⟨rfl, hB8.out.trans (hW.mono hB8.out.size)⟩
end Go.Proofs.YtopfkbpjfcdjnaaDoor
