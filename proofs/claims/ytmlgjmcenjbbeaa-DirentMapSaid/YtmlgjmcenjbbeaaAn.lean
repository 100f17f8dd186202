/- Make and the reference's Make. -/
import Derived.Test.YtmlgjmcenjbbeaaAm
import Derived.Test.YtmlgjmcenjbbeaaAj
namespace Go.Proofs.Ytmlgjmcenjbbeaa
open Go.RowKit
/-- How far the making came. -/
def MkI (es : List Ent) (w : World) (k : Nat) (p : Value) (W : World) : Prop :=
  ∃ g cap bs, p = .slice (some ⟨g, 0, none⟩) 256 cap ∧ OwnB W g cap bs ∧ bs.length = 256 ∧ w.heap.size ≤ g ∧ Nm.makeFrom bs (es.drop k) = Nm.make es ∧ Below w.heap.size w W
theorem add_len {b c : List UInt8} {e : Ent} (h : Nm.add b e = (some c, 0)) : c.length = 256 := by
  obtain ⟨_, _, _, _, _, _, _, _, h⟩ := Nm.add_did h
  exact Nm.recs_len h
set_option maxRecDepth 100000 in
set_option maxHeartbeats 4000000 in
theorem make_any (es : List Ent) (v : Value) (w : World) (hr : RdE w v es) (hm : es.length ≤ 1000) : Calls Try.prog 25 #[v] w (OutRes (Nm.make es) w) := by
  obtain ⟨la, lc, rfl⟩ := hr.len
  replace hr := Lib.hid hr
  go_enter Try.func25, Try.ntmps25
  go_wp2_with fail
  refine (empty_any _).mono ?_
  rintro e w1 ⟨g0, cap0, rfl, hg0, ho0, hb0⟩
  rw [Nm.empty_len]
  have h0 : MkI es w 0 (.slice (some ⟨g0, 0, none⟩) 256 cap0) w1 := ⟨g0, cap0, _, rfl, ho0, Nm.empty_len, hg0, rfl, hb0⟩
  replace h0 := Lib.hid h0
  clear hg0 ho0 hb0
  go_wp2_with fail
  go_loopw [4, 12] (fun p i wr => ∃ k : Nat, k ≤ es.length ∧ i = .int .i64 k ∧ MkI es w k p wr) (fun _ i _ => es.length - (intOf i).toNat)
  case atStart => exact ⟨0, by omega, rfl, h0.out⟩
  case round =>
    clear h0
    obtain ⟨k, hk, rfl, g, cap, bs, rfl, ho, h256, hg, hmk, hB⟩ := hrel
    by_cases hlt : k < es.length
    · obtain ⟨b1, o1, q1, hv1, _, _, g1⟩ := (hr.out.below hB).at (by intro e; rw [e] at hlt; simp at hlt)
      cases hv1
      have c0 := g1 k hlt 0
      have c1 := g1 k hlt 1
      have c2 := g1 k hlt 2
      clear g1
      rw [List.drop_eq_getElem_cons hlt] at hmk
      obtain ⟨q, hq⟩ : ∃ q, es[k] = q := ⟨_, rfl⟩
      rw [hq] at c0 c1 c2 hmk
      clear hq
      have hws := hB.size
      have hrd : RdB wr (.slice (some ⟨g, 0, none⟩) 256 cap) bs := by have := ho.rd; rwa [h256] at this
      have hadd := fun (W : World) (hW : Below wr.heap.size wr W) => add_any bs q (.slice (some ⟨g, 0, none⟩) 256 cap) W (hrd.below hW)
      have hor := Nm.add_or bs q
      obtain ⟨x, hx⟩ : ∃ x, Nm.add bs q = x := ⟨_, rfl⟩
      have hs := fun c => @Nm.makeFrom_some bs c q (es.drop (k + 1))
      have hn := fun c => @Nm.makeFrom_none bs q c (es.drop (k + 1))
      have hlen := fun c => @add_len bs c q
      rw [hx] at hadd hor hs hn hlen
      clear hx
      obtain ⟨qn, qi, qk⟩ := q
      unfold entV at hadd
      replace c0 := c0 _ rfl
      replace c1 := c1 _ rfl
      replace c2 := c2 _ rfl
      dsimp only at c0 c1 c2 hadd
      replace c0 : wr.cell? ⟨b1, o1 + k * 3, none⟩ = _ := c0
      have hI0 : (0 : Int) ≤ (k : Int) := by omega
      have hI1 : (k : Int) < (es.length : Int) := by omega
      have hBx := (Below.refl wr.heap.size wr).alloc (Nat.le_refl _) (.cells #[.string (S qn), .int .i64 qi, .int .i64 qk] 24)
      have bx := Box.new wr 24 #[.string (S qn), .int .i64 qi, .int .i64 qk]
      have x0 := bx.get 0 _ rfl
      have x1 := bx.get 1 _ rfl
      have x2 := bx.get 2 _ rfl
      have hor' := hor
      replace hadd := Lib.hid (hadd _ hBx)
      have hfin := Lib.hid (show ∀ w2, Below (wr.alloc (.cells #[.string (S qn), .int .i64 qi, .int .i64 qk] 24)).heap.size (wr.alloc (.cells #[.string (S qn), .int .i64 qi, .int .i64 qk] 24)) w2 → Below w.heap.size w w2 from fun w2 h => hB.trans ((hBx.trans (h.mono hBx.size)).mono hws))
      have hgs := Lib.hid (show ∀ g2, (wr.alloc (.cells #[.string (S qn), .int .i64 qi, .int .i64 qk] 24)).heap.size ≤ g2 → w.heap.size ≤ g2 from fun g2 h => by have := hBx.size; omega)
      clear hBx bx
      clear hrd hor
      replace hmk := Lib.hid hmk
      replace hs := Lib.hid hs
      replace hn := Lib.hid hn
      replace hlen := Lib.hid hlen
      replace ho := Lib.hid ho
      replace hB := Lib.hid hB
      replace h256 := Lib.hid h256
      rcases hor' with ⟨c, rfl⟩ | ⟨n, rfl, hn0⟩
      · have hmk' := Lib.hid ((hs.out c rfl).symm.trans hmk.out)
        have hcl := Lib.hid (hlen.out c rfl)
        clear hmk hs hn hlen
        go_wp2_with (go_at_call 26; (with_reducible refine hadd.out.mono ?_); rintro e w2 ⟨u, rfl, ⟨g2, cap2, rfl, hg2, ho2⟩, hb2⟩; rw [hcl.out]; replace ho2 := Lib.hid ho2; replace hb2 := Lib.hid hb2)
        go_roundw
        case rel => exact ⟨k + 1, by omega, by go_num, g2, cap2, c, rfl, ho2.out, hcl.out, (hgs.out _ hg2), hmk'.out, (hfin.out _ hb2.out)⟩
        case measure => simp [intOf]; omega
      · have hmk' := Lib.hid ((hn.out n rfl).symm.trans hmk.out).symm
        have hnz : (n != 0) = true := by simpa using hn0
        clear hmk hs hn hlen hn0
        go_wp2_with (go_at_call 26; (with_reducible refine hadd.out.mono ?_); rintro e w2 ⟨u, rfl, hu, hb2⟩; replace hu : u = _ := hu; subst hu; replace hb2 := Lib.hid hb2)
        go_ret2
        exact outRes_none hmk'.out (hfin.out _ hb2.out)
    · have hk' : k = es.length := by omega
      subst hk'
      rw [List.drop_length] at hmk
      replace hmk := Lib.hid hmk
      go_wp2_with fail
      go_ret2
      exact outRes_some hmk.out.symm h256 hg ho hB
set_option maxRecDepth 100000 in
set_option maxHeartbeats 4000000 in
theorem maker_any (es : List Ent) (v : Value) (w : World) (hr : RdE w v es) (hm : es.length ≤ 1000) : Calls Try.prog 33 #[v] w (OutRes (Nm.make es) w) := by
  obtain ⟨la, lc, rfl⟩ := hr.len
  replace hr := Lib.hid hr
  go_enter Try.func33, Try.ntmps33
  go_wp2_with fail
  refine (emptyr_any _).mono ?_
  rintro e w1 ⟨g0, cap0, rfl, hg0, ho0, hb0⟩
  rw [Nm.empty_len]
  have h0 : MkI es w 0 (.slice (some ⟨g0, 0, none⟩) 256 cap0) w1 := ⟨g0, cap0, _, rfl, ho0, Nm.empty_len, hg0, rfl, hb0⟩
  replace h0 := Lib.hid h0
  clear hg0 ho0 hb0
  go_wp2_with fail
  go_loopw [4, 5] (fun p i wr => ∃ k : Nat, k ≤ es.length ∧ i = .int .i64 k ∧ MkI es w k p wr) (fun _ i _ => es.length - (intOf i).toNat)
  case atStart => exact ⟨0, by omega, rfl, h0.out⟩
  case round =>
    clear h0
    obtain ⟨k, hk, rfl, g, cap, bs, rfl, ho, h256, hg, hmk, hB⟩ := hrel
    by_cases hlt : k < es.length
    · obtain ⟨b1, o1, q1, hv1, _, _, g1⟩ := (hr.out.below hB).at (by intro e; rw [e] at hlt; simp at hlt)
      cases hv1
      have c0 := g1 k hlt 0
      have c1 := g1 k hlt 1
      have c2 := g1 k hlt 2
      clear g1
      rw [List.drop_eq_getElem_cons hlt] at hmk
      obtain ⟨q, hq⟩ : ∃ q, es[k] = q := ⟨_, rfl⟩
      rw [hq] at c0 c1 c2 hmk
      clear hq
      have hws := hB.size
      have hrd : RdB wr (.slice (some ⟨g, 0, none⟩) 256 cap) bs := by have := ho.rd; rwa [h256] at this
      have hadd := fun (W : World) (hW : Below wr.heap.size wr W) => addr_any bs q (.slice (some ⟨g, 0, none⟩) 256 cap) W (hrd.below hW)
      have hor := Nm.add_or bs q
      obtain ⟨x, hx⟩ : ∃ x, Nm.add bs q = x := ⟨_, rfl⟩
      have hs := fun c => @Nm.makeFrom_some bs c q (es.drop (k + 1))
      have hn := fun c => @Nm.makeFrom_none bs q c (es.drop (k + 1))
      have hlen := fun c => @add_len bs c q
      rw [hx] at hadd hor hs hn hlen
      clear hx
      obtain ⟨qn, qi, qk⟩ := q
      unfold entV at hadd
      replace c0 := c0 _ rfl
      replace c1 := c1 _ rfl
      replace c2 := c2 _ rfl
      dsimp only at c0 c1 c2 hadd
      replace c0 : wr.cell? ⟨b1, o1 + k * 3, none⟩ = _ := c0
      have hI0 : (0 : Int) ≤ (k : Int) := by omega
      have hI1 : (k : Int) < (es.length : Int) := by omega
      have hor' := hor
      replace hadd := Lib.hid (hadd _ (Below.refl wr.heap.size wr))
      have hfin := Lib.hid (show ∀ w2, Below wr.heap.size wr w2 → Below w.heap.size w w2 from fun w2 h => hB.trans (h.mono hws))
      have hgs := Lib.hid (show ∀ g2, wr.heap.size ≤ g2 → w.heap.size ≤ g2 from fun g2 h => by omega)
      clear hrd hor
      replace hmk := Lib.hid hmk
      replace hs := Lib.hid hs
      replace hn := Lib.hid hn
      replace hlen := Lib.hid hlen
      replace ho := Lib.hid ho
      replace hB := Lib.hid hB
      replace h256 := Lib.hid h256
      rcases hor' with ⟨c, rfl⟩ | ⟨n, rfl, hn0⟩
      · have hmk' := Lib.hid ((hs.out c rfl).symm.trans hmk.out)
        have hcl := Lib.hid (hlen.out c rfl)
        clear hmk hs hn hlen
        go_wp2_with (go_at_call 29; (with_reducible refine hadd.out.mono ?_); rintro e w2 ⟨u, rfl, ⟨g2, cap2, rfl, hg2, ho2⟩, hb2⟩; rw [hcl.out]; replace ho2 := Lib.hid ho2; replace hb2 := Lib.hid hb2)
        go_roundw
        case rel => exact ⟨k + 1, by omega, by go_num, g2, cap2, c, rfl, ho2.out, hcl.out, (hgs.out _ hg2), hmk'.out, (hfin.out _ hb2.out)⟩
        case measure => simp [intOf]; omega
      · have hmk' := Lib.hid ((hn.out n rfl).symm.trans hmk.out).symm
        have hnz : (n != 0) = true := by simpa using hn0
        clear hmk hs hn hlen hn0
        go_wp2_with (go_at_call 29; (with_reducible refine hadd.out.mono ?_); rintro e w2 ⟨u, rfl, hu, hb2⟩; replace hu : u = _ := hu; subst hu; replace hb2 := Lib.hid hb2)
        go_ret2
        exact outRes_none hmk'.out (hfin.out _ hb2.out)
    · have hk' : k = es.length := by omega
      subst hk'
      rw [List.drop_length] at hmk
      replace hmk := Lib.hid hmk
      go_wp2_with fail
      go_ret2
      exact outRes_some hmk.out.symm h256 hg ho hB
end Go.Proofs.Ytmlgjmcenjbbeaa
