/- slipwayref16.Records: the records of a block. -/
import Derived.Test.YtmlgjmcenjbbeaaL
namespace Go.Proofs.Ytmlgjmcenjbbeaa
open Go.RowKit
namespace Nm
theorem dup_take {acc : List Rec} {r : Rec} {k : Nat} (h : k < acc.length) (ht : dup (acc.take k) r = false) (hc : (decide (r.e.ino ≠ 0) && (decide (acc[k].e.ino ≠ 0) && acc[k].e.name == r.e.name)) = false) : dup (acc.take (k + 1)) r = false := by
  unfold dup at ht ⊢
  rw [List.take_succ_eq_append_getElem h, List.any_append]
  rw [Bool.and_or_distrib_left, ht]
  simpa using hc
theorem dup_hit {acc : List Rec} {r : Rec} {k : Nat} (h : k < acc.length) (hc : (decide (r.e.ino ≠ 0) && (decide (acc[k].e.ino ≠ 0) && acc[k].e.name == r.e.name)) = true) : dup acc r = true := by
  rw [Bool.and_eq_true] at hc
  unfold dup
  rw [hc.1, Bool.true_and, List.any_eq_true]
  exact ⟨acc[k], List.getElem_mem h, hc.2⟩
end Nm
theorem drewN_drewN (w : World) (m n : Nat) : (w.drewN m).drewN n = w.drewN (m + n) := by
  simp [World.drewN, Nat.add_assoc]
/-- Between two records of the reference. -/
def RecJ (b : List UInt8) (w : World) (l : Value) (a : Nat) (acc : List Rec) (W : World) : Prop :=
  a ≤ 256 ∧ acc.length * 8 ≤ a ∧ W.ownsRow w.heap.size 62 5 l acc.length (acc.flatMap recL) ∧ Below w.heap.size w W
set_option maxRecDepth 100000 in
set_option maxHeartbeats 8000000 in
theorem recordsr_any (b : List UInt8) (v : Value) (w : World) (hr : RdB w v b) : Calls Try.prog 36 #[v] w (RecsRes 62 (Nm.recs b) w) := by
  by_cases h256 : b.length = 256
  case neg =>
    obtain ⟨aa, cap, hv⟩ := hr.len
    subst hv
    have hno := Lib.hid (show Nm.recs b = none by unfold Nm.recs; rw [if_neg h256])
    have t1 : ((b.length : Int) != 256) = true := by rw [bne_iff_ne]; omega
    clear hr
    go_enter Try.func36, Try.ntmps36
    go_wp2
    go_ret2
    exact recsRes_none hno.out (Below.refl _ _)
  obtain ⟨aa, cap, hv⟩ := hr.len
  have hrec := Lib.hid (show Nm.recs b = Nm.recsAt b 257 0 [] by unfold Nm.recs; rw [if_pos h256])
  have hone := Lib.hid (fun (a : Nat) (W : World) (ha : a ≤ 256) (hW : Below w.heap.size w W) => oner_any b a v W (hr.below hW) (by omega) ha)
  rw [h256] at hv
  subst hv
  replace h256 := Lib.hid h256
  clear hr
  obtain ⟨i0, hi0, hz0, hz1, hz2⟩ := info_parts infoRef
  go_enter Try.func36, Try.ntmps36
  go_wp2
  go_loopw [4, 5] (fun l i wr => ∃ (f a : Nat) (acc : List Rec), i = .int .i64 a ∧ 256 < f + a ∧ Nm.recs b = Nm.recsAt b f a acc ∧ RecJ b w l a acc wr) (fun _ i _ => 256 - (intOf i).toNat)
  case atStart => exact ⟨257, 0, [], rfl, by omega, hrec.out, by omega, by simp, World.ownsRow_nil _ _ _ _, Below.refl _ _⟩
  case round =>
    obtain ⟨f, a, acc, rfl, hf, hR, ha, hacc, hown, hB⟩ := hrel
    replace hR := Lib.hid hR
    obtain ⟨f, rfl⟩ : ∃ g, f = g + 1 := ⟨f - 1, by omega⟩
    by_cases ha6 : a = 256
    · subst ha6
      have hfin := Lib.hid (show Nm.recs b = some acc by rw [hR.out, Nm.recsAt_end])
      replace hown := Lib.hid hown
      replace hB := Lib.hid hB
      go_wp2
      go_ret2
      exact recsRes_some hfin.out hown.out hB.out
    · have n6 : (a : Int) < 256 := by omega
      have h1 := Lib.hid (hone.out a wr ha hB)
      rcases hor : Nm.one b a with _ | r
      · have hno := Lib.hid (show Nm.recs b = none by rw [hR.out, Nm.recsAt_none ha6 hor])
        rw [hor] at h1
        replace hown := Lib.hid hown
        have hB' := hB.size
        replace hB := Lib.hid hB
        go_wp2_with (go_at_call 54; refine h1.out.mono ?_; rintro e w1 ⟨r, rfl, _, hb1⟩; unfold recV)
        go_ret2
        exact recsRes_none hno.out ((hB.out.trans (hb1.mono hB')).alloc (Nat.le_trans hB' hb1.size) _)
      · have hir := Nm.one_is hor
        have hno := Lib.hid (show Nm.dup acc r = true → Nm.recs b = none from fun h => by rw [hR.out, Nm.recsAt_dup ha6 hor h])
        have hgo := Lib.hid (show Nm.dup acc r = false → Nm.recs b = Nm.recsAt b f (a + r.len.toNat) (acc ++ [r]) from fun h => by rw [hR.out, Nm.recsAt_some ha6 hor h])
        have hfm := Lib.hid (show (acc ++ [r]).flatMap recL = acc.flatMap recL ++ recL r by rw [List.flatMap_append]; simp)
        rw [hor] at h1
        obtain ⟨h8, h4, hft, h48⟩ : 8 ≤ r.len ∧ r.len % 4 = 0 ∧ a + r.len ≤ 256 ∧ r.e.name.length ≤ 48 := ⟨hir.len8, hir.len4, by have := hir.fits; rw [h256.out] at this; omega, hir.name48⟩
        clear hor hir
        have hdt := Lib.hid (fun (k : Nat) (h : k < acc.length) => Nm.dup_take (r := r) h)
        have hdh := Lib.hid (fun (k : Nat) (h : k < acc.length) => Nm.dup_hit (r := r) h)
        obtain ⟨ra, rl, ⟨nm, ino, kd⟩⟩ := r
        dsimp only at hfm h8 h4 hft h48 hgo hdt hdh
        have hsz := hB.size
        have h1' : Calls Try.prog 54 #[.slice aa 256 cap, .int .i64 a] wr fun e w' => e = .returned (.tuple #[.agg #[.int .i64 ra, .int .i64 rl, .string (S nm), .int .i64 ino, .int .i64 kd], .bool true]) ∧ Below wr.heap.size wr w' := h1.out.mono (by
          rintro e w' ⟨r', rfl, hr', hb⟩
          have := hr' _ rfl
          subst this
          exact ⟨rfl, hb⟩)
        replace h1' := Lib.hid h1'
        clear h1
        obtain ⟨n, rfl⟩ : ∃ n : Nat, rl = n := ⟨rl.toNat, by omega⟩
        obtain ⟨la, lc, hl⟩ : ∃ la lc, u4 = .slice la acc.length lc := (RdC.of_own recL_len hown).len
        subst hl
        go_wp2_with (go_at_call 54; refine h1'.out.mono ?_; rintro e w1 ⟨rfl, hb1⟩)
        have hs1 := hb1.size
        have bx2 := Box.new w1 62 #[.int .i64 ra, .int .i64 n, .string (S nm), .int .i64 ino, .int .i64 kd]
        have ho2 := (own_below hown hb1).alloc (.cells #[.int .i64 ra, .int .i64 n, .string (S nm), .int .i64 ino, .int .i64 kd] 62)
        have hB2 := (hB.trans (hb1.mono hsz)).alloc (by omega : w.heap.size ≤ w1.heap.size) (.cells #[.int .i64 ra, .int .i64 n, .string (S nm), .int .i64 ino, .int .i64 kd] 62)
        have rd2 := RdC.of_own recL_len ho2
        have hbo : ∀ k, (Value.slice la acc.length lc).ownBlock = some k → k < w1.heap.size := fun k e => by have := hown.lt k e; omega
        generalize w1.alloc (.cells #[.int .i64 ra, .int .i64 n, .string (S nm), .int .i64 ino, .int .i64 kd] 62) = W2 at bx2 ho2 hB2 rd2 ⊢
        generalize w1.heap.size = B2 at bx2 hbo ⊢
        clear hb1 hown hB hs1 h1' hone
        have d0 := bx2.get 0 _ rfl
        have d1 := bx2.get 1 _ rfl
        have d2 := bx2.get 2 _ rfl
        have d3 := bx2.get 3 _ rfl
        have d4 := bx2.get 4 _ rfl
        replace bx2 := Lib.hid bx2
        replace ho2 := Lib.hid ho2
        replace hB2 := Lib.hid hB2
        replace rd2 := Lib.hid rd2
        replace hbo := Lib.hid hbo
        go_loopw [8] (fun i wx => ∃ k m : Nat, k ≤ acc.length ∧ i = .int .i64 k ∧ wx = W2.drewN m ∧ Nm.dup (acc.take k) ⟨ra, n, ⟨nm, ino, kd⟩⟩ = false) (fun i _ => acc.length - (intOf i).toNat)
        case atStart => exact ⟨0, 0, by omega, rfl, rfl, by unfold Nm.dup; simp⟩
        case round =>
          obtain ⟨k, m, hk, rfl, hw, hT⟩ := hrel
          obtain rfl := hw.symm
          replace hT := Lib.hid hT
          by_cases hlt : k < acc.length
          · obtain ⟨bb, o, cc, hv, _, hbb, hcell⟩ := rd2.out.at (by intro e; rw [e] at hlt; simp at hlt)
            cases hv
            have hdt' := Lib.hid (hdt.out k hlt hT.out)
            have hdh' := Lib.hid (hdh.out k hlt)
            obtain ⟨q, hq⟩ : ∃ q, acc[k] = q := ⟨_, rfl⟩
            have hc2 := hcell k hlt 2
            have hc3 := hcell k hlt 3
            rw [hq] at hc2 hc3 hdt' hdh'
            obtain ⟨qa, ql, ⟨qn, qi, qk⟩⟩ := q
            replace hc2 := hc2 _ rfl
            replace hc3 := hc3 _ rfl
            dsimp only at hc2 hc3 hdt' hdh'
            clear hcell
            replace hq := Lib.hid hq
            have hI0 : (0 : Int) ≤ (k : Int) := by omega
            have hI1 : (k : Int) < (acc.length : Int) := by omega
            by_cases g1 : ino = 0
            · have z1 : (ino != 0) = false := by simpa using g1
              have hc := Lib.hid (hdt'.out (by simp [g1]))
              clear g1
              go_wp2_with fail
              go_quiet (fail)
              go_wp2_with fail
              go_roundw
              case rel => exact ⟨k + 1, _, by omega, by go_num, rfl, hc.out⟩
              case measure => simp [intOf]; omega
            have z1 : (ino != 0) = true := by simpa using g1
            by_cases g2 : qi = 0
            · have z2 : (qi != 0) = false := by simpa using g2
              have hc := Lib.hid (hdt'.out (by simp [g2]))
              clear g1 g2
              go_wp2_with fail
              go_quiet (fail)
              go_wp2_with fail
              go_roundw
              case rel => exact ⟨k + 1, _, by omega, by go_num, rfl, hc.out⟩
              case measure => simp [intOf]; omega
            have z2 : (qi != 0) = true := by simpa using g2
            by_cases g3 : (qn == nm) = true
            · have hc := Lib.hid (hno.out (hdh'.out (by simp [g1, g2]; simpa using g3)))
              clear g1 g2
              go_wp2_with fail
              go_quiet (fail)
              go_wp2_with fail
              go_ret2
              exact recsRes_none hc.out (by rw [drewN_drewN]; exact hB2.out.trans ((below_drewN _ _).mono hB2.out.size))
            · rw [Bool.not_eq_true] at g3
              have hc := Lib.hid (hdt'.out (by simp [g1, g2]; simpa using g3))
              clear g1 g2
              go_wp2_with fail
              go_quiet (fail)
              go_wp2_with fail
              go_roundw
              case rel => exact ⟨k + 1, _, by omega, by go_num, rfl, hc.out⟩
              case measure => simp [intOf]; omega
          · have hk' : k = acc.length := by omega
            subst hk'
            rw [List.take_length] at hT
            have hgo' := Lib.hid (hgo.out hT.out)
            rw [Int.toNat_natCast] at hgo'
            have hzz := hB2.out.size
            clear hT hno hgo hdt hdh
            have ho2d : (W2.drewN m).ownsRow w.heap.size 62 5 (.slice la acc.length lc) acc.length (acc.flatMap recL) := ho2.out
            have bx2d : Box (W2.drewN m) B2 62 #[.int .i64 ra, .int .i64 n, .string (S nm), .int .i64 ino, .int .i64 kd] := bx2.out
            have hB2d : Below w.heap.size w (W2.drewN m) := hB2.out.trans ((below_drewN _ _).mono hzz)
            generalize W2.drewN m = W3 at ho2d bx2d hB2d ⊢
            have d0 := bx2d.get 0 _ rfl
            have d1 := bx2d.get 1 _ rfl
            have d2 := bx2d.get 2 _ rfl
            have d3 := bx2d.get 3 _ rfl
            have d4 := bx2d.get 4 _ rfl
            have hz3 := hB2d.size
            replace hB2d := Lib.hid hB2d
            go_wp2_with (at_builtin; refine wpList_append_lies _ rfl _ _ 58 rfl w.heap.size 62 i0 (.agg #[.int .i64 0, .int .i64 0, .string ⟨#[]⟩, .int .i64 0, .int .i64 0]) 5 48 Try.underlying58 hi0 hz0 hz1 hz2 rfl (by decide) _ acc.length (acc.flatMap recL) rfl (ho2d.alloc _) ⟨W3.heap.size, 0, none⟩ 1 1 [.int .i64 ra, .int .i64 n, .string (S nm), .int .i64 ino, .int .i64 kd] rfl rfl (World.news_of_block (heap_alloc_new W3 (.cells #[.int .i64 ra, .int .i64 n, .string (S nm), .int .i64 ino, .int .i64 kd] 62))) (by simp [Value.oneCell']) (by omega) (by unfold maxLen; omega) (by omega) (by rw [World.size_alloc]; omega) _ rfl ?_; intro vg vc w3 ho3 hg3 _ _; have bx3 := (bx2d.alloc (.cells #[.int .i64 ra, .int .i64 n, .string (S nm), .int .i64 ino, .int .i64 kd] 62)).grown hg3 (fun e => Nat.lt_irrefl _ (hbo.out B2 e.symm)); have x1 := bx3.get 1 _ rfl)
            go_roundw
            case rel =>
              refine ⟨f, a + n, acc ++ [⟨ra, n, ⟨nm, ino, kd⟩⟩], by go_num, by omega, hgo'.out, by omega, by simp; omega, ?_, (hB2d.out.alloc hz3 (.cells #[.int .i64 ra, .int .i64 n, .string (S nm), .int .i64 ino, .int .i64 kd] 62)).grown hg3 (by rw [World.size_alloc]; omega) (fun k hk => (ho2d.lt k hk).1)⟩
              rw [hfm.out, List.length_append]; exact ho3
            case measure => simp [intOf]; omega
end Go.Proofs.Ytmlgjmcenjbbeaa
