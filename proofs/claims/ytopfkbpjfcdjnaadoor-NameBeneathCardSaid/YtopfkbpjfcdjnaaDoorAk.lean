/- The reference's Parent, Ways, Under. -/
import Derived.Test.YtopfkbpjfcdjnaaDoorX
import Derived.Test.YtopfkbpjfcdjnaaDoorT
import Derived.Test.YtopfkbpjfcdjnaaDoorAi
namespace Go.Proofs.YtopfkbpjfcdjnaaDoor
open Go.RowKit
set_option maxRecDepth 100000 in
set_option maxHeartbeats 4000000 in
theorem parentr_any (p : List UInt8) (w : World) : Calls Tryd.prog 26 #[.string (S p)] w (ParRes (Nm.parent p) w) := by
  have hsp := Lib.hid (splitr_any p w)
  obtain ⟨⟨xs, n⟩, hr⟩ : ∃ r, Nm.split p = r := ⟨_, rfl⟩
  have hxl := Nm.split_fst_len p
  have hxm := Nm.split_fst_mem p
  have hP := Lib.hid (show Nm.parent p = if n = 0 then (if xs = [] then ([], [], 216) else (Nm.upto (xs.take (xs.length - 1)), xs.getD (xs.length - 1) [], 0)) else ([], [], n) by unfold Nm.parent; rw [hr])
  rw [hr] at hsp hxl hxm
  simp only at hxl hxm
  replace hxm := Lib.hid hxm
  by_cases hn0 : n = 0
  case neg =>
    have hn1 : (n == 0) = false := by simpa using hn0
    replace hr := Lib.hid hr
    go_enter Tryd.func26, Tryd.ntmps26
    go_wp2_with (go_at_call 25; refine hsp.out.mono ?_; rintro e w1 ⟨v, rfl, hrd, hb1⟩)
    go_ret3
    exact parRes_mk (a := []) (b := []) (by rw [hP.out, if_neg hn0]) rfl hb1
  subst hn0
  by_cases h0 : xs = []
  · subst h0
    replace hr := Lib.hid hr
    go_enter Tryd.func26, Tryd.ntmps26
    go_wp2_with (go_at_call 25; refine hsp.out.mono ?_; rintro e w1 ⟨v, rfl, hrd, hb1⟩; obtain ⟨a, cap, hv⟩ := hrd.len; subst hv)
    go_ret3
    exact parRes_mk (a := []) (b := []) (by rw [hP.out]; rfl) rfl hb1
  have hpos : 0 < xs.length := List.length_pos_iff.2 h0
  have hjt := Lib.hid (Nm.join_take hr (xs.length - 1))
  have hj := Lib.hid (fun (v : Value) (W : World) (hrd : RdS W v (xs.take (xs.length - 1))) => joinr_any (xs.take (xs.length - 1)) v W hrd (fun x hx => by have := hxm.out x (List.mem_of_mem_take hx); omega) (by rw [List.length_take]; omega))
  rw [hjt.out] at hj
  have hP2 := Lib.hid (show Nm.parent p = (Nm.upto (xs.take (xs.length - 1)), xs[xs.length - 1], 0) by rw [hP.out, if_pos rfl, if_neg h0, List.getD_eq_getElem?_getD, List.getElem?_eq_getElem (by omega)]; rfl)
  have z0 : ((xs.length : Int) == 0) = false := by rw [beq_eq_false_iff_ne]; omega
  obtain ⟨x, hx⟩ : ∃ x, xs[xs.length - 1] = x := ⟨_, rfl⟩
  obtain ⟨up, hup⟩ : ∃ up, Nm.upto (xs.take (xs.length - 1)) = up := ⟨_, rfl⟩
  rw [hup] at hj
  replace hx := Lib.hid hx
  replace hup := Lib.hid hup
  replace hr := Lib.hid hr
  replace h0 := Lib.hid h0
  unfold JoinRes at hj
  simp only at hj
  go_enter Tryd.func26, Tryd.ntmps26
  go_wp2_with (go_at_call 25; refine hsp.out.mono ?_; (rintro e w1 ⟨v, rfl, hrd, hb1⟩; replace hrd : RdS w1 v xs := hrd; obtain ⟨b, o, cap, hv, hcap, hbk, hcell⟩ := hrd.at h0.out; subst hv; replace hrd := Lib.hid hrd; have c1 : (0 : Int) ≤ (xs.length : Int) - 1 := (by omega); have c2 : (xs.length : Int) - 1 ≤ cap := (by omega); replace hcell := Lib.hid (hcell (xs.length - 1) (by omega))))
  refine (hj.out _ _ (hrd.out.take (xs.length - 1) _ (by omega) (by omega))).mono ?_
  rintro e w2 ⟨rfl, hb2⟩
  have hcell2 : w2.cell? ⟨b, o + (xs.length - 1), none⟩ = some (.string (S x)) := by
    have := cell_below hcell.out hb2
    rw [hx.out] at this; exact this
  go_wp2
  go_quiet (fail)
  go_wp2
  go_ret3
  exact parRes_mk (a := up) (b := x) (by rw [hP2.out, hup.out, hx.out]) rfl ((hb1.trans (hb2.mono hb1.size)).trans ((below_drewN _ _).mono (Nat.le_trans hb1.size hb2.size)))
theorem own_mono {W : World} {B B' : Nat} {e : TypeId} {size n : Nat} {v : Value} {xs : List Value} (h : W.ownsRow B e size v n xs) (hb : B' ≤ B) : W.ownsRow B' e size v n xs := by
  obtain ⟨h0, h1⟩ := h
  refine ⟨h0, ?_⟩
  rcases h1 with ⟨a, b⟩ | ⟨g, cap, cur, e1, hg, rest⟩
  · exact .inl ⟨a, b⟩
  · exact .inr ⟨g, cap, cur, e1, Nat.le_trans hb hg, rest⟩
set_option maxRecDepth 100000 in
set_option maxHeartbeats 4000000 in
theorem waysr_any (p : List UInt8) (w : World) : Calls Tryd.prog 28 #[.string (S p)] w (OwnTexts (Nm.ways p) w) := by
  have hsp := Lib.hid (splitr_any p w)
  obtain ⟨⟨xs, m⟩, hr⟩ : ∃ r, Nm.split p = r := ⟨_, rfl⟩
  have hxl := Nm.split_fst_len p
  have hxm := Nm.split_fst_mem p
  rw [hr] at hsp hxl hxm
  simp only at hxl hxm
  replace hxm := Lib.hid hxm
  have hways := Lib.hid (show Nm.ways p = if m = 0 then Nm.waysOf xs else [] by unfold Nm.ways; rw [hr])
  obtain ⟨i0, hi0, hz0, hz1, hz2⟩ := info_parts infoStr
  by_cases hm : m = 0
  case neg =>
    have hm1 : (m == 0) = false := by simpa using hm
    replace hr := Lib.hid hr
    go_enter Tryd.func28, Tryd.ntmps28
    go_wp2_with (go_at_call 25; refine hsp.out.mono ?_; rintro e w1 ⟨v, rfl, hrd, hb1⟩)
    go_ret
    rw [hways.out, if_neg hm]
    exact ⟨_, rfl, World.ownsRow_nil _ _ _ _, hb1⟩
  subst hm
  have hj := Lib.hid (fun (k : Nat) (v' : Value) (W : World) (hrd : RdS W v' (xs.take k)) => (by
    have := joinr_any (xs.take k) v' W hrd (fun x hx => by have := hxm.out x (List.mem_of_mem_take hx); omega) (by rw [List.length_take]; omega)
    rw [Nm.join_take hr k] at this
    exact this : Calls Tryd.prog 12 #[v'] W (JoinRes (Nm.upto (xs.take k), 0) W)))
  replace hr := Lib.hid hr
  have hw0 := Lib.hid (show Nm.ways p = Nm.waysOf xs by rw [hways.out, if_pos rfl])
  go_enter Tryd.func28, Tryd.ntmps28
  go_wp2_with (go_at_call 25; refine hsp.out.mono ?_; rintro e w1 ⟨v, rfl, hrd, hb1⟩; replace hrd : RdS w1 v xs := hrd; obtain ⟨a, cap, hv⟩ := hrd.len; subst hv)
  have hcap : xs.length ≤ cap := by
    obtain ⟨a', c', h1, h2, _⟩ := hrd
    cases h1; exact h2
  replace hrd := Lib.hid hrd
  go_loopw [5, 6] (fun o i wr => ∃ k : Nat, k ≤ xs.length + 1 ∧ i = .int .i64 k ∧ wr.ownsRow w1.heap.size 9 1 o k (((Nm.waysOf xs).take k).map strV) ∧ Below w1.heap.size w1 wr) (fun _ i _ => xs.length + 1 - (intOf i).toNat)
  case atStart => exact ⟨0, Nat.zero_le _, rfl, World.ownsRow_nil _ _ _ _, Below.refl _ _⟩
  case round =>
    obtain ⟨k, hk, rfl, hown, hW⟩ := hrel
    have hsz := hW.size
    by_cases hlt : k ≤ xs.length
    · have c1 : (k : Int) ≤ cap := by omega
      have hjk := Lib.hid (hj.out k (.slice a k cap) wr ((hrd.out.below hW).take k k hlt rfl))
      have htk := Lib.hid (Nm.waysOf_take xs k hlt)
      obtain ⟨t, ht⟩ : ∃ t, Nm.upto (xs.take k) = t := ⟨_, rfl⟩
      rw [ht] at hjk htk
      replace ht := Lib.hid ht
      replace hW := Lib.hid hW
      go_wp2_with (first | (go_at_call 12; refine hjk.out.mono ?_; rintro e w2 ⟨rfl, hb2⟩; have hown2 := own_walked hown (grown_below hb2) (fun r e => by cases e); have hsz2 := hb2.size; replace hb2 := Lib.hid hb2) | (at_builtin; refine wpList_append_lies _ rfl _ _ 22 rfl w1.heap.size 9 i0 (.string ⟨#[]⟩) 1 16 Tryd.underlying22 hi0 hz0 hz1 hz2 rfl (by decide) _ k (((Nm.waysOf xs).take k).map strV) rfl (hown2.alloc _) ⟨w2.heap.size, 0, none⟩ 1 1 [.string (S t)] rfl rfl (World.news_of_block (heap_alloc_new w2 (.cells #[.string (S t)] 9))) (by simp [Value.oneCell']) (by omega) (by unfold maxLen; omega) (by omega) (by rw [World.size_alloc]; omega) _ rfl ?_; intro vg vc w3 hown3 hgrow _ _))
      go_roundw
      case rel => exact ⟨k + 1, by omega, by go_num, by rw [htk.out, List.map_append]; exact hown3, (((hW.out.trans (hb2.out.mono hsz)).alloc (Nat.le_trans hsz hsz2) _).grown hgrow (by rw [World.size_alloc]; omega) (fun k hk => (hown2.lt k hk).1))⟩
      case measure => simp [intOf]; omega
    · have hk' : k = xs.length + 1 := by omega
      subst hk'
      have hall := Lib.hid (show (Nm.waysOf xs).take (xs.length + 1) = Nm.waysOf xs by rw [← Nm.waysOf_len, List.take_length])
      rw [hall.out] at hown
      go_wp2
      go_ret
      rw [hw0.out]
      refine ⟨_, rfl, ?_, hb1.trans (hW.mono hb1.size)⟩
      rw [Nm.waysOf_len]
      exact own_mono hown hb1.size
end Go.Proofs.YtopfkbpjfcdjnaaDoor
