/- NameWraps returns true. -/
import Derived.Test.YtopfkbpjfcdjnaaDoorAa
namespace Go.Proofs.YtopfkbpjfcdjnaaDoor
open Go.RowKit
/-- A wrapping: at a sector, or by a call. -/
structure Lnk where
  disk : Bool
  sector : Int
  op : List UInt8
  path : List UInt8
/-- What a slice of wrappings reads as. -/
def RdL (W : World) (v : Value) (ls : List Lnk) : Prop :=
  ∃ a cap, v = .slice a ls.length cap ∧ ls.length ≤ cap ∧ ∀ j x, ls[j]? = some x → ∃ b o, a = some ⟨b, o, none⟩ ∧ W.cell? ⟨b, o + j * 4, none⟩ = some (.bool x.disk) ∧ W.cell? ⟨b, o + j * 4 + 1, none⟩ = some (.int .i64 x.sector) ∧
    W.cell? ⟨b, o + j * 4 + 2, none⟩ = some (.string (S x.op)) ∧ W.cell? ⟨b, o + j * 4 + 3, none⟩ = some (.string (S x.path))
theorem RdL.below {W W' : World} {v : Value} {ls : List Lnk} (h : RdL W v ls) (hb : Below W.heap.size W W') : RdL W' v ls := by
  obtain ⟨a, cap, h1, h2, h3⟩ := h
  refine ⟨a, cap, h1, h2, fun j x hj => ?_⟩
  obtain ⟨b, o, e, c0, c1, c2, c3⟩ := h3 j x hj
  exact ⟨b, o, e, cell_below c0 hb, cell_below c1 hb, cell_below c2 hb, cell_below c3 hb⟩
/-- The pointer to the outermost wrapping at a sector. -/
def PtrD (w : World) (dp : Value) (l : List Lk) : Prop :=
  (dp = .pointer none ∧ firstDisk l = none) ∨ ∃ b o s b' o', dp = .pointer (some ⟨b, o, none⟩) ∧ firstDisk l = some (s, b', o') ∧ w.cell? ⟨b, o + 1, none⟩ = some (.int .i64 s)
/-- The pointer to the outermost wrapping by a call. -/
def PtrC (w : World) (cp : Value) (l : List Lk) : Prop :=
  (cp = .pointer none ∧ firstFault l = none) ∨ ∃ b o p q b' o', cp = .pointer (some ⟨b, o, none⟩) ∧ firstFault l = some (S p, S q, b', o') ∧ w.cell? ⟨b, o + 2, none⟩ = some (.string (S p)) ∧ w.cell? ⟨b, o + 3, none⟩ = some (.string (S q))
theorem chain_disk {W : World} {E : Value} {l : List Lk} {t : Option Int} (h : Chain W E l t) (s : Int) :
    Chain (W.alloc (.cells #[.int .i64 s, E] 38)) (.iface 36 (.pointer (some ⟨W.heap.size, 0, none⟩))) (.disk s W.heap.size 0 :: l) t :=
  .disk s _ _ _ _ _ ((Box.new W 38 _).get 0 _ rfl) ((Box.new W 38 _).get 1 _ rfl) (h.keep ((Below.refl _ _).alloc (Nat.le_refl _) _))
set_option maxRecDepth 100000 in
set_option maxHeartbeats 4000000 in
theorem wraps_some (n m : Int) (ls : List Lnk) (v : Value) (w0 : World) (hG : Gl w0) (hE : ErrT w0) (hr : RdL w0 v ls) (hn : n ≠ 0) :
    Calls Tryd.prog 5 #[.int .i64 n, .int .i64 m, v] w0 fun e w' => e = .returned (.bool true) ∧ Below w0.heap.size w0 w' := by
  have hlive := Lib.hid (live_any w0 hG hE)
  have hr' := hr
  obtain ⟨a, cap, hv, hc, h3⟩ := hr'
  subst hv
  replace hr := Lib.hid hr
  replace hE := Lib.hid hE
  clear h3
  have hn1 : (n == 0) = false := by simpa using hn
  have hn2 : (n != 0) = true := by simpa using hn
  have c1 : (0 : Int) ≤ min (ls.length : Int) 40 := by omega
  have c2 : min (ls.length : Int) 40 ≤ cap := by omega
  go_enter Tryd.func5, Tryd.ntmps5
  go_wp2_with fail
  refine hlive.out.mono ?_
  rintro e w ⟨rfl, hb0⟩
  obtain ⟨a', cap', hv', _, h3⟩ := hr.out.below hb0
  cases hv'
  have hEw := Lib.hid (hE.out.below hb0)
  replace h3 := Lib.hid h3
  go_wp2_with fail
  obtain ⟨mm, hmm⟩ : ∃ mm : Nat, min ls.length 40 = mm := ⟨_, rfl⟩
  have e1 : max (min (ls.length : Int) 40) 0 = (mm : Int) := by omega
  have e2 : (min (ls.length : Int) 40).toNat = mm := by omega
  have hml : mm ≤ ls.length := by omega
  have hmc : mm ≤ cap := by omega
  have hm40 : mm ≤ 40 := by omega
  rw [e1, e2]
  clear e1 e2 c1 c2
  replace hmm := Lib.hid hmm
  replace hb0 := Lib.hid hb0
  go_loopw [7, 8, 9, 35] (fun E dp cp i wr => ∃ (k : Nat) (l : List Lk), k ≤ mm ∧ i = .int .i64 k ∧ Chain wr E l (some n) ∧ PtrD w dp l ∧ PtrC w cp l ∧ Below w.heap.size w wr) (fun _ _ _ i _ => mm - (intOf i).toNat)
  case atStart => exact ⟨0, [], Nat.zero_le _, rfl, .base n, .inl ⟨rfl, rfl⟩, .inl ⟨rfl, rfl⟩, Below.refl _ _⟩
  case round =>
    obtain ⟨k, l, hk, rfl, hch, hD, hC, hB⟩ := hrel
    have hsz := hB.size
    have hne : ∃ u1 v1, u7 = .iface u1 v1 := by cases hch <;> exact ⟨_, _, rfl⟩
    obtain ⟨u1, v1, rfl⟩ := hne
    by_cases hlt : k < mm
    · obtain ⟨b, o, he, d0, d1, d2, d3⟩ := h3.out k _ (List.getElem?_eq_getElem (by omega))
      subst he
      have hkl : k < ls.length := by omega
      obtain ⟨x, hx⟩ : ∃ x, ls[k] = x := ⟨_, rfl⟩
      rw [hx] at d0 d1 d2 d3
      replace hx := Lib.hid hx
      have f1 := Lib.hid d1
      have f2 := Lib.hid d2
      have f3 := Lib.hid d3
      replace d0 := cell_below d0 hB
      replace d1 := cell_below d1 hB
      replace d2 := cell_below d2 hB
      replace d3 := cell_below d3 hB
      obtain ⟨xd, xs, xo, xp⟩ := x
      dsimp only at d0 d1 d2 d3 f1 f2 f3
      replace hD := Lib.hid hD
      replace hC := Lib.hid hC
      have hB1 := Lib.hid (hB.alloc hsz (.cells #[.bool xd, .int .i64 xs, .string (S xo), .string (S xp)] 43))
      have hch1 := Lib.hid (hch.keep (W' := wr.alloc (.cells #[.bool xd, .int .i64 xs, .string (S xo), .string (S xp)] 43)) ((Below.refl _ _).alloc (Nat.le_refl _) _))
      replace hB := Lib.hid hB
      replace hch := Lib.hid hch
      cases xd with
      | true =>
        have hC1 := chain_disk hch1.out xs
        rw [World.size_alloc] at hC1
        replace hC1 := Lib.hid hC1
        have hB2 := Lib.hid (hB1.out.alloc hB1.out.size (.cells #[.int .i64 xs, .iface u1 v1] 38))
        go_wp2_with fail
        go_roundw
        case rel => exact ⟨k + 1, _, by omega, by go_num, hC1.out, .inr ⟨b, o + k * 4, xs, _, _, rfl, rfl, f1.out⟩, hC.out, hB2.out⟩
        case measure => simp [intOf]; omega
      | false =>
        have hC1 := chain_wrap hch1.out (S xo) (S xp)
        rw [World.size_alloc] at hC1
        replace hC1 := Lib.hid hC1
        have hB2 := Lib.hid (hB1.out.alloc hB1.out.size (.cells #[.string (S xo), .string (S xp), .iface u1 v1] 66))
        have hw := Lib.hid (wrap_err (S xo) (S xp) u1 v1 (wr.alloc (.cells #[.bool false, .int .i64 xs, .string (S xo), .string (S xp)] 43)))
        rw [World.size_alloc] at hw
        go_wp2_with (go_at_call 16; refine hw.out.mono ?_; rintro e w2 ⟨rfl, hw2⟩; obtain rfl := hw2.symm)
        go_roundw
        case rel => exact ⟨k + 1, _, by omega, by go_num, hC1.out, hD.out, .inr ⟨b, o + k * 4, xo, xp, _, _, rfl, rfl, f2.out, f3.out⟩, hB2.out⟩
        case measure => simp [intOf]; omega
    · have hk' : k = mm := by omega
      subst hk'
      have hEr := hEw.out.below hB
      have hB' := Lib.hid (hb0.out.trans (hB.mono hb0.out.size))
      have hs := Lib.hid (sector_any _ _ _ wr hch hEr)
      replace hB := Lib.hid hB
      -- what Sector and Op tell
      have hsec : (u8 = .pointer none ∧ sectorOf l = (0, false)) ∨ ∃ b o s, u8 = .pointer (some ⟨b, o, none⟩) ∧ sectorOf l = (s, true) ∧ w.cell? ⟨b, o + 1, none⟩ = some (.int .i64 s) := by
        rcases hD with ⟨h1, h2⟩ | ⟨b, o, s, b', o', h1, h2, h3⟩
        · exact .inl ⟨h1, by unfold sectorOf; rw [h2]⟩
        · exact .inr ⟨b, o, s, h1, by unfold sectorOf; rw [h2], h3⟩
      have hop : (u9 = .pointer none ∧ opOf l = (⟨#[]⟩, ⟨#[]⟩, false)) ∨ ∃ b o p q, u9 = .pointer (some ⟨b, o, none⟩) ∧ opOf l = (S p, S q, true) ∧ w.cell? ⟨b, o + 2, none⟩ = some (.string (S p)) ∧ w.cell? ⟨b, o + 3, none⟩ = some (.string (S q)) := by
        rcases hC with ⟨h1, h2⟩ | ⟨b, o, p, q, b', o', h1, h2, h3, h4⟩
        · exact .inl ⟨h1, by unfold opOf; rw [h2]⟩
        · exact .inr ⟨b, o, p, q, h1, by unfold opOf; rw [h2], h3, h4⟩
      clear hD hC
      have hop' := Lib.hid (fun W hch hE => op_any (.iface u1 v1) l (some n) W hch hE)
      have hcode := Lib.hid (fun W hch hE => code_any (.iface u1 v1) l (some n) W hch hE)
      have his := Lib.hid (fun k W hch => is_any (.iface u1 v1) l (some n) k W hch)
      have hfat := Lib.hid (fun W hch => fatal_any (.iface u1 v1) l (some n) W hch)
      have hcn : codeOf (some n) = n := rfl
      rw [hcn] at hcode
      clear hcn
      have hi1 : ((some n : Option Int) == some n) = true := by simp
      have hi2 : ((some n : Option Int) == some m) = (n == m) := rfl
      have his1 := Lib.hid (fun W hch => (by have := his.out n W hch; rw [hi1] at this; exact this : Calls Tryd.prog 19 #[.iface u1 v1, .iface 25 (.int .i64 n)] W (IsRes W true)))
      have his2 := Lib.hid (fun W hch => (by have := his.out m W hch; rw [hi2] at this; exact this : Calls Tryd.prog 19 #[.iface u1 v1, .iface 25 (.int .i64 m)] W (IsRes W (n == m))))
      have hff : fatalOf (some n) = ((n == 8) || ((n == 80) || (n == 9))) := rfl
      rw [hff] at hfat
      clear hff hi1 hi2 his
      replace hEr := Lib.hid hEr
      have hch0 := Lib.hid hch
      clear hch
      clear hlt hml hmc hm40 hk
      rcases hsec with ⟨rfl, hs0⟩ | ⟨b1, o1, s1, rfl, hs0, hcs⟩
      · rcases hop with ⟨rfl, hp0⟩ | ⟨b2, o2, pp, qq, rfl, hp0, hcp, hcq⟩
        · rw [hs0] at hs
          simp only [hp0] at hop'
          go_wp2_with fail
          refine hs.out.mono ?_
          intro e w2 hk2
          obtain ⟨rfl, hb2⟩ := kept_below hk2
          clear hk2
          have hch2 := Lib.hid (hch0.out.keep hb2)
          have hE2 := Lib.hid (hEr.out.below hb2)
          have hB2 := Lib.hid (hB.out.trans (hb2.mono hB.out.size))
          have hop2 := Lib.hid (hop'.out _ hch2.out hE2.out)
          clear hb2
          go_wp2_with fail
          refine hop2.out.mono ?_
          intro e w3 hk3
          obtain ⟨rfl, hb3⟩ := kept_below hk3
          clear hk3
          have hch3 := Lib.hid (hch2.out.keep hb3)
          have hE3 := Lib.hid (hE2.out.below hb3)
          have hB3 := Lib.hid (hB2.out.trans (hb3.mono hB2.out.size))
          have hcd := Lib.hid (hcode.out _ hch3.out hE3.out)
          clear hb3
          rcases h8 : (n == 8) with _ | _
          · rcases h80 : (n == 80) with _ | _
            · rcases h9 : (n == 9) with _ | _
              · go_wp2_with fail
                refine hcd.out.mono ?_
                intro e w4 hk4
                obtain ⟨rfl, hb4⟩ := kept1_below hk4
                clear hk4
                have hch4 := hch3.out.keep hb4
                have hB4 := Lib.hid (hB3.out.trans (hb4.mono hB3.out.size))
                have q1 := Lib.hid (his1.out _ hch4)
                have q2 := Lib.hid (his2.out _ hch4)
                have q3 := Lib.hid (hfat.out _ hch4)
                clear hb4 hch4
                go_wp2_with fail
                refine q1.out.mono ?_
                rintro e w5 ⟨rfl, hw⟩
                obtain rfl := hw.symm
                go_wp2_with fail
                refine q2.out.mono ?_
                rintro e w6 ⟨rfl, hw⟩
                obtain rfl := hw.symm
                go_wp2_with fail
                refine q3.out.mono ?_
                rintro e w7 ⟨rfl, hw⟩
                obtain rfl := hw.symm
                go_wp2_with fail
                go_ret
                exact ⟨rfl, hb0.out.trans (hB4.out.mono hb0.out.size)⟩
              · go_wp2_with fail
                refine hcd.out.mono ?_
                intro e w4 hk4
                obtain ⟨rfl, hb4⟩ := kept1_below hk4
                clear hk4
                have hch4 := hch3.out.keep hb4
                have hB4 := Lib.hid (hB3.out.trans (hb4.mono hB3.out.size))
                have q1 := Lib.hid (his1.out _ hch4)
                have q2 := Lib.hid (his2.out _ hch4)
                have q3 := Lib.hid (hfat.out _ hch4)
                clear hb4 hch4
                go_wp2_with fail
                refine q1.out.mono ?_
                rintro e w5 ⟨rfl, hw⟩
                obtain rfl := hw.symm
                go_wp2_with fail
                refine q2.out.mono ?_
                rintro e w6 ⟨rfl, hw⟩
                obtain rfl := hw.symm
                go_wp2_with fail
                refine q3.out.mono ?_
                rintro e w7 ⟨rfl, hw⟩
                obtain rfl := hw.symm
                go_wp2_with fail
                go_ret
                exact ⟨rfl, hb0.out.trans (hB4.out.mono hb0.out.size)⟩
            · go_wp2_with fail
              refine hcd.out.mono ?_
              intro e w4 hk4
              obtain ⟨rfl, hb4⟩ := kept1_below hk4
              clear hk4
              have hch4 := hch3.out.keep hb4
              have hB4 := Lib.hid (hB3.out.trans (hb4.mono hB3.out.size))
              have q1 := Lib.hid (his1.out _ hch4)
              have q2 := Lib.hid (his2.out _ hch4)
              have q3 := Lib.hid (hfat.out _ hch4)
              clear hb4 hch4
              go_wp2_with fail
              refine q1.out.mono ?_
              rintro e w5 ⟨rfl, hw⟩
              obtain rfl := hw.symm
              go_wp2_with fail
              refine q2.out.mono ?_
              rintro e w6 ⟨rfl, hw⟩
              obtain rfl := hw.symm
              go_wp2_with fail
              refine q3.out.mono ?_
              rintro e w7 ⟨rfl, hw⟩
              obtain rfl := hw.symm
              go_wp2_with fail
              go_ret
              exact ⟨rfl, hb0.out.trans (hB4.out.mono hb0.out.size)⟩
          · go_wp2_with fail
            refine hcd.out.mono ?_
            intro e w4 hk4
            obtain ⟨rfl, hb4⟩ := kept1_below hk4
            clear hk4
            have hch4 := hch3.out.keep hb4
            have hB4 := Lib.hid (hB3.out.trans (hb4.mono hB3.out.size))
            have q1 := Lib.hid (his1.out _ hch4)
            have q2 := Lib.hid (his2.out _ hch4)
            have q3 := Lib.hid (hfat.out _ hch4)
            clear hb4 hch4
            go_wp2_with fail
            refine q1.out.mono ?_
            rintro e w5 ⟨rfl, hw⟩
            obtain rfl := hw.symm
            go_wp2_with fail
            refine q2.out.mono ?_
            rintro e w6 ⟨rfl, hw⟩
            obtain rfl := hw.symm
            go_wp2_with fail
            refine q3.out.mono ?_
            rintro e w7 ⟨rfl, hw⟩
            obtain rfl := hw.symm
            go_wp2_with fail
            go_ret
            exact ⟨rfl, hb0.out.trans (hB4.out.mono hb0.out.size)⟩
        · replace hcp := Lib.hid hcp
          replace hcq := Lib.hid hcq
          rw [hs0] at hs
          simp only [hp0] at hop'
          go_wp2_with fail
          refine hs.out.mono ?_
          intro e w2 hk2
          obtain ⟨rfl, hb2⟩ := kept_below hk2
          clear hk2
          have hch2 := Lib.hid (hch0.out.keep hb2)
          have hE2 := Lib.hid (hEr.out.below hb2)
          have hB2 := Lib.hid (hB.out.trans (hb2.mono hB.out.size))
          have hop2 := Lib.hid (hop'.out _ hch2.out hE2.out)
          clear hb2
          go_wp2_with fail
          refine hop2.out.mono ?_
          intro e w3 hk3
          obtain ⟨rfl, hb3⟩ := kept_below hk3
          clear hk3
          have hch3 := Lib.hid (hch2.out.keep hb3)
          have hE3 := Lib.hid (hE2.out.below hb3)
          have hB3 := Lib.hid (hB2.out.trans (hb3.mono hB2.out.size))
          have hcd := Lib.hid (hcode.out _ hch3.out hE3.out)
          clear hb3
          have g2 := cell_below hcp.out hB3.out
          have g3 := cell_below hcq.out hB3.out
          rcases h8 : (n == 8) with _ | _
          · rcases h80 : (n == 80) with _ | _
            · rcases h9 : (n == 9) with _ | _
              · go_wp2_with fail
                refine hcd.out.mono ?_
                intro e w4 hk4
                obtain ⟨rfl, hb4⟩ := kept1_below hk4
                clear hk4
                have hch4 := hch3.out.keep hb4
                have hB4 := Lib.hid (hB3.out.trans (hb4.mono hB3.out.size))
                have q1 := Lib.hid (his1.out _ hch4)
                have q2 := Lib.hid (his2.out _ hch4)
                have q3 := Lib.hid (hfat.out _ hch4)
                clear hb4 hch4
                go_wp2_with fail
                refine q1.out.mono ?_
                rintro e w5 ⟨rfl, hw⟩
                obtain rfl := hw.symm
                go_wp2_with fail
                refine q2.out.mono ?_
                rintro e w6 ⟨rfl, hw⟩
                obtain rfl := hw.symm
                go_wp2_with fail
                refine q3.out.mono ?_
                rintro e w7 ⟨rfl, hw⟩
                obtain rfl := hw.symm
                go_wp2_with fail
                go_ret
                exact ⟨rfl, hb0.out.trans (hB4.out.mono hb0.out.size)⟩
              · go_wp2_with fail
                refine hcd.out.mono ?_
                intro e w4 hk4
                obtain ⟨rfl, hb4⟩ := kept1_below hk4
                clear hk4
                have hch4 := hch3.out.keep hb4
                have hB4 := Lib.hid (hB3.out.trans (hb4.mono hB3.out.size))
                have q1 := Lib.hid (his1.out _ hch4)
                have q2 := Lib.hid (his2.out _ hch4)
                have q3 := Lib.hid (hfat.out _ hch4)
                clear hb4 hch4
                go_wp2_with fail
                refine q1.out.mono ?_
                rintro e w5 ⟨rfl, hw⟩
                obtain rfl := hw.symm
                go_wp2_with fail
                refine q2.out.mono ?_
                rintro e w6 ⟨rfl, hw⟩
                obtain rfl := hw.symm
                go_wp2_with fail
                refine q3.out.mono ?_
                rintro e w7 ⟨rfl, hw⟩
                obtain rfl := hw.symm
                go_wp2_with fail
                go_ret
                exact ⟨rfl, hb0.out.trans (hB4.out.mono hb0.out.size)⟩
            · go_wp2_with fail
              refine hcd.out.mono ?_
              intro e w4 hk4
              obtain ⟨rfl, hb4⟩ := kept1_below hk4
              clear hk4
              have hch4 := hch3.out.keep hb4
              have hB4 := Lib.hid (hB3.out.trans (hb4.mono hB3.out.size))
              have q1 := Lib.hid (his1.out _ hch4)
              have q2 := Lib.hid (his2.out _ hch4)
              have q3 := Lib.hid (hfat.out _ hch4)
              clear hb4 hch4
              go_wp2_with fail
              refine q1.out.mono ?_
              rintro e w5 ⟨rfl, hw⟩
              obtain rfl := hw.symm
              go_wp2_with fail
              refine q2.out.mono ?_
              rintro e w6 ⟨rfl, hw⟩
              obtain rfl := hw.symm
              go_wp2_with fail
              refine q3.out.mono ?_
              rintro e w7 ⟨rfl, hw⟩
              obtain rfl := hw.symm
              go_wp2_with fail
              go_ret
              exact ⟨rfl, hb0.out.trans (hB4.out.mono hb0.out.size)⟩
          · go_wp2_with fail
            refine hcd.out.mono ?_
            intro e w4 hk4
            obtain ⟨rfl, hb4⟩ := kept1_below hk4
            clear hk4
            have hch4 := hch3.out.keep hb4
            have hB4 := Lib.hid (hB3.out.trans (hb4.mono hB3.out.size))
            have q1 := Lib.hid (his1.out _ hch4)
            have q2 := Lib.hid (his2.out _ hch4)
            have q3 := Lib.hid (hfat.out _ hch4)
            clear hb4 hch4
            go_wp2_with fail
            refine q1.out.mono ?_
            rintro e w5 ⟨rfl, hw⟩
            obtain rfl := hw.symm
            go_wp2_with fail
            refine q2.out.mono ?_
            rintro e w6 ⟨rfl, hw⟩
            obtain rfl := hw.symm
            go_wp2_with fail
            refine q3.out.mono ?_
            rintro e w7 ⟨rfl, hw⟩
            obtain rfl := hw.symm
            go_wp2_with fail
            go_ret
            exact ⟨rfl, hb0.out.trans (hB4.out.mono hb0.out.size)⟩
      · replace hcs := Lib.hid hcs
        rcases hop with ⟨rfl, hp0⟩ | ⟨b2, o2, pp, qq, rfl, hp0, hcp, hcq⟩
        · rw [hs0] at hs
          simp only [hp0] at hop'
          go_wp2_with fail
          refine hs.out.mono ?_
          intro e w2 hk2
          obtain ⟨rfl, hb2⟩ := kept_below hk2
          clear hk2
          have hch2 := Lib.hid (hch0.out.keep hb2)
          have hE2 := Lib.hid (hEr.out.below hb2)
          have hB2 := Lib.hid (hB.out.trans (hb2.mono hB.out.size))
          have hop2 := Lib.hid (hop'.out _ hch2.out hE2.out)
          clear hb2
          go_wp2_with fail
          refine hop2.out.mono ?_
          intro e w3 hk3
          obtain ⟨rfl, hb3⟩ := kept_below hk3
          clear hk3
          have hch3 := Lib.hid (hch2.out.keep hb3)
          have hE3 := Lib.hid (hE2.out.below hb3)
          have hB3 := Lib.hid (hB2.out.trans (hb3.mono hB2.out.size))
          have hcd := Lib.hid (hcode.out _ hch3.out hE3.out)
          clear hb3
          have g1 := cell_below hcs.out hB3.out
          rcases h8 : (n == 8) with _ | _
          · rcases h80 : (n == 80) with _ | _
            · rcases h9 : (n == 9) with _ | _
              · go_wp2_with fail
                refine hcd.out.mono ?_
                intro e w4 hk4
                obtain ⟨rfl, hb4⟩ := kept1_below hk4
                clear hk4
                have hch4 := hch3.out.keep hb4
                have hB4 := Lib.hid (hB3.out.trans (hb4.mono hB3.out.size))
                have q1 := Lib.hid (his1.out _ hch4)
                have q2 := Lib.hid (his2.out _ hch4)
                have q3 := Lib.hid (hfat.out _ hch4)
                clear hb4 hch4
                go_wp2_with fail
                refine q1.out.mono ?_
                rintro e w5 ⟨rfl, hw⟩
                obtain rfl := hw.symm
                go_wp2_with fail
                refine q2.out.mono ?_
                rintro e w6 ⟨rfl, hw⟩
                obtain rfl := hw.symm
                go_wp2_with fail
                refine q3.out.mono ?_
                rintro e w7 ⟨rfl, hw⟩
                obtain rfl := hw.symm
                go_wp2_with fail
                go_ret
                exact ⟨rfl, hb0.out.trans (hB4.out.mono hb0.out.size)⟩
              · go_wp2_with fail
                refine hcd.out.mono ?_
                intro e w4 hk4
                obtain ⟨rfl, hb4⟩ := kept1_below hk4
                clear hk4
                have hch4 := hch3.out.keep hb4
                have hB4 := Lib.hid (hB3.out.trans (hb4.mono hB3.out.size))
                have q1 := Lib.hid (his1.out _ hch4)
                have q2 := Lib.hid (his2.out _ hch4)
                have q3 := Lib.hid (hfat.out _ hch4)
                clear hb4 hch4
                go_wp2_with fail
                refine q1.out.mono ?_
                rintro e w5 ⟨rfl, hw⟩
                obtain rfl := hw.symm
                go_wp2_with fail
                refine q2.out.mono ?_
                rintro e w6 ⟨rfl, hw⟩
                obtain rfl := hw.symm
                go_wp2_with fail
                refine q3.out.mono ?_
                rintro e w7 ⟨rfl, hw⟩
                obtain rfl := hw.symm
                go_wp2_with fail
                go_ret
                exact ⟨rfl, hb0.out.trans (hB4.out.mono hb0.out.size)⟩
            · go_wp2_with fail
              refine hcd.out.mono ?_
              intro e w4 hk4
              obtain ⟨rfl, hb4⟩ := kept1_below hk4
              clear hk4
              have hch4 := hch3.out.keep hb4
              have hB4 := Lib.hid (hB3.out.trans (hb4.mono hB3.out.size))
              have q1 := Lib.hid (his1.out _ hch4)
              have q2 := Lib.hid (his2.out _ hch4)
              have q3 := Lib.hid (hfat.out _ hch4)
              clear hb4 hch4
              go_wp2_with fail
              refine q1.out.mono ?_
              rintro e w5 ⟨rfl, hw⟩
              obtain rfl := hw.symm
              go_wp2_with fail
              refine q2.out.mono ?_
              rintro e w6 ⟨rfl, hw⟩
              obtain rfl := hw.symm
              go_wp2_with fail
              refine q3.out.mono ?_
              rintro e w7 ⟨rfl, hw⟩
              obtain rfl := hw.symm
              go_wp2_with fail
              go_ret
              exact ⟨rfl, hb0.out.trans (hB4.out.mono hb0.out.size)⟩
          · go_wp2_with fail
            refine hcd.out.mono ?_
            intro e w4 hk4
            obtain ⟨rfl, hb4⟩ := kept1_below hk4
            clear hk4
            have hch4 := hch3.out.keep hb4
            have hB4 := Lib.hid (hB3.out.trans (hb4.mono hB3.out.size))
            have q1 := Lib.hid (his1.out _ hch4)
            have q2 := Lib.hid (his2.out _ hch4)
            have q3 := Lib.hid (hfat.out _ hch4)
            clear hb4 hch4
            go_wp2_with fail
            refine q1.out.mono ?_
            rintro e w5 ⟨rfl, hw⟩
            obtain rfl := hw.symm
            go_wp2_with fail
            refine q2.out.mono ?_
            rintro e w6 ⟨rfl, hw⟩
            obtain rfl := hw.symm
            go_wp2_with fail
            refine q3.out.mono ?_
            rintro e w7 ⟨rfl, hw⟩
            obtain rfl := hw.symm
            go_wp2_with fail
            go_ret
            exact ⟨rfl, hb0.out.trans (hB4.out.mono hb0.out.size)⟩
        · replace hcp := Lib.hid hcp
          replace hcq := Lib.hid hcq
          rw [hs0] at hs
          simp only [hp0] at hop'
          go_wp2_with fail
          refine hs.out.mono ?_
          intro e w2 hk2
          obtain ⟨rfl, hb2⟩ := kept_below hk2
          clear hk2
          have hch2 := Lib.hid (hch0.out.keep hb2)
          have hE2 := Lib.hid (hEr.out.below hb2)
          have hB2 := Lib.hid (hB.out.trans (hb2.mono hB.out.size))
          have hop2 := Lib.hid (hop'.out _ hch2.out hE2.out)
          clear hb2
          go_wp2_with fail
          refine hop2.out.mono ?_
          intro e w3 hk3
          obtain ⟨rfl, hb3⟩ := kept_below hk3
          clear hk3
          have hch3 := Lib.hid (hch2.out.keep hb3)
          have hE3 := Lib.hid (hE2.out.below hb3)
          have hB3 := Lib.hid (hB2.out.trans (hb3.mono hB2.out.size))
          have hcd := Lib.hid (hcode.out _ hch3.out hE3.out)
          clear hb3
          have g1 := cell_below hcs.out hB3.out
          have g2 := cell_below hcp.out hB3.out
          have g3 := cell_below hcq.out hB3.out
          rcases h8 : (n == 8) with _ | _
          · rcases h80 : (n == 80) with _ | _
            · rcases h9 : (n == 9) with _ | _
              · go_wp2_with fail
                refine hcd.out.mono ?_
                intro e w4 hk4
                obtain ⟨rfl, hb4⟩ := kept1_below hk4
                clear hk4
                have hch4 := hch3.out.keep hb4
                have hB4 := Lib.hid (hB3.out.trans (hb4.mono hB3.out.size))
                have q1 := Lib.hid (his1.out _ hch4)
                have q2 := Lib.hid (his2.out _ hch4)
                have q3 := Lib.hid (hfat.out _ hch4)
                clear hb4 hch4
                go_wp2_with fail
                refine q1.out.mono ?_
                rintro e w5 ⟨rfl, hw⟩
                obtain rfl := hw.symm
                go_wp2_with fail
                refine q2.out.mono ?_
                rintro e w6 ⟨rfl, hw⟩
                obtain rfl := hw.symm
                go_wp2_with fail
                refine q3.out.mono ?_
                rintro e w7 ⟨rfl, hw⟩
                obtain rfl := hw.symm
                go_wp2_with fail
                go_ret
                exact ⟨rfl, hb0.out.trans (hB4.out.mono hb0.out.size)⟩
              · go_wp2_with fail
                refine hcd.out.mono ?_
                intro e w4 hk4
                obtain ⟨rfl, hb4⟩ := kept1_below hk4
                clear hk4
                have hch4 := hch3.out.keep hb4
                have hB4 := Lib.hid (hB3.out.trans (hb4.mono hB3.out.size))
                have q1 := Lib.hid (his1.out _ hch4)
                have q2 := Lib.hid (his2.out _ hch4)
                have q3 := Lib.hid (hfat.out _ hch4)
                clear hb4 hch4
                go_wp2_with fail
                refine q1.out.mono ?_
                rintro e w5 ⟨rfl, hw⟩
                obtain rfl := hw.symm
                go_wp2_with fail
                refine q2.out.mono ?_
                rintro e w6 ⟨rfl, hw⟩
                obtain rfl := hw.symm
                go_wp2_with fail
                refine q3.out.mono ?_
                rintro e w7 ⟨rfl, hw⟩
                obtain rfl := hw.symm
                go_wp2_with fail
                go_ret
                exact ⟨rfl, hb0.out.trans (hB4.out.mono hb0.out.size)⟩
            · go_wp2_with fail
              refine hcd.out.mono ?_
              intro e w4 hk4
              obtain ⟨rfl, hb4⟩ := kept1_below hk4
              clear hk4
              have hch4 := hch3.out.keep hb4
              have hB4 := Lib.hid (hB3.out.trans (hb4.mono hB3.out.size))
              have q1 := Lib.hid (his1.out _ hch4)
              have q2 := Lib.hid (his2.out _ hch4)
              have q3 := Lib.hid (hfat.out _ hch4)
              clear hb4 hch4
              go_wp2_with fail
              refine q1.out.mono ?_
              rintro e w5 ⟨rfl, hw⟩
              obtain rfl := hw.symm
              go_wp2_with fail
              refine q2.out.mono ?_
              rintro e w6 ⟨rfl, hw⟩
              obtain rfl := hw.symm
              go_wp2_with fail
              refine q3.out.mono ?_
              rintro e w7 ⟨rfl, hw⟩
              obtain rfl := hw.symm
              go_wp2_with fail
              go_ret
              exact ⟨rfl, hb0.out.trans (hB4.out.mono hb0.out.size)⟩
          · go_wp2_with fail
            refine hcd.out.mono ?_
            intro e w4 hk4
            obtain ⟨rfl, hb4⟩ := kept1_below hk4
            clear hk4
            have hch4 := hch3.out.keep hb4
            have hB4 := Lib.hid (hB3.out.trans (hb4.mono hB3.out.size))
            have q1 := Lib.hid (his1.out _ hch4)
            have q2 := Lib.hid (his2.out _ hch4)
            have q3 := Lib.hid (hfat.out _ hch4)
            clear hb4 hch4
            go_wp2_with fail
            refine q1.out.mono ?_
            rintro e w5 ⟨rfl, hw⟩
            obtain rfl := hw.symm
            go_wp2_with fail
            refine q2.out.mono ?_
            rintro e w6 ⟨rfl, hw⟩
            obtain rfl := hw.symm
            go_wp2_with fail
            refine q3.out.mono ?_
            rintro e w7 ⟨rfl, hw⟩
            obtain rfl := hw.symm
            go_wp2_with fail
            go_ret
            exact ⟨rfl, hb0.out.trans (hB4.out.mono hb0.out.size)⟩
end Go.Proofs.YtopfkbpjfcdjnaaDoor
