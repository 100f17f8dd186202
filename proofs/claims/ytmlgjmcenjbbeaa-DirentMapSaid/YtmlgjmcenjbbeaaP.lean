/- The reference's Find. -/
import Derived.Test.YtmlgjmcenjbbeaaO
namespace Go.Proofs.Ytmlgjmcenjbbeaa
open Go.RowKit
def zeroEnt : Ent := ⟨[], 0, 0⟩
/-- An entry, or none. -/
def FindRes (o : Option Ent) (w : World) (e : Ending) (w' : World) : Prop := e = .returned (.tuple #[entV (o.getD zeroEnt), .bool o.isSome]) ∧ Below w.heap.size w w'
theorem findRes_none {o : Option Ent} {w w' : World} (h : o = none) (hb : Below w.heap.size w w') : FindRes o w (.returned (.tuple #[entV zeroEnt, .bool false])) w' := by
  subst h; exact ⟨rfl, hb⟩
theorem findRes_some {o : Option Ent} {e : Ent} {w w' : World} (h : o = some e) (hb : Below w.heap.size w w') : FindRes o w (.returned (.tuple #[entV e, .bool true])) w' := by
  subst h; exact ⟨rfl, hb⟩
theorem res8 {W : World} {b : Nat} {r : Ent} {is : Bool} (h : Box W b 24 (entL r).toArray) {tmps : Array Value} (h4 : tmps.getD 4 undef = .pointer (some ⟨b, 0, none⟩)) (h5 : tmps.getD 5 undef = .bool is) :
    (results Try.f8 tmps).run Try.prog W = .ok (.tuple #[entV r, .bool is]) W := by
  have d0 := h.get 0 _ rfl
  have d1 := h.get 1 _ rfl
  have d2 := h.get 2 _ rfl
  simp at h4 h5
  simp [results, Try.results8, go_sem, h4, h5, d0, d1, d2, entV, entL]
namespace Nm
theorem findIn_take {l : List Ent} {n : List UInt8} {k : Nat} (h : k < l.length) (ht : findIn l n = findIn (l.drop k) n) (hc : (l[k].name == n) = false) : findIn l n = findIn (l.drop (k + 1)) n := by
  rw [ht]
  unfold findIn
  rw [List.drop_eq_getElem_cons h, List.find?_cons, hc]
theorem findIn_hit {l : List Ent} {n : List UInt8} {k : Nat} (h : k < l.length) (ht : findIn l n = findIn (l.drop k) n) (hc : (l[k].name == n) = true) : findIn l n = some l[k] := by
  rw [ht]
  unfold findIn
  rw [List.drop_eq_getElem_cons h, List.find?_cons, hc]
theorem findIn_end {l : List Ent} {n : List UInt8} (ht : findIn l n = findIn (l.drop l.length) n) : findIn l n = none := by
  rw [ht, List.drop_length]; rfl
end Nm
set_option maxRecDepth 100000 in
set_option maxHeartbeats 4000000 in
theorem findr_any (b n : List UInt8) (v : Value) (w : World) (hr : RdB w v b) : Calls Try.prog 8 #[v, .string (S n)] w (FindRes (Nm.findIn (Nm.ents b) n) w) := by
  obtain ⟨W0, hW0⟩ : ∃ W0, w.alloc (.cells #[.string ⟨#[]⟩, .int .i64 0, .int .i64 0] 24) = W0 := ⟨_, rfl⟩
  have hB0 : Below w.heap.size w W0 := by rw [← hW0]; exact (Below.refl _ _).alloc (Nat.le_refl _) _
  have bx0 : Box W0 w.heap.size 24 #[.string ⟨#[]⟩, .int .i64 0, .int .i64 0] := by rw [← hW0]; exact Box.new _ _ _
  have h1 := entriesr_any b v W0 (hr.below hB0)
  have hel : (Nm.ents b).length ≤ 32 := Nat.le_trans (Nm.entsOf_len _) (Nm.recs_getD b).2
  obtain ⟨l, hl⟩ : ∃ l, Nm.ents b = l := ⟨_, rfl⟩
  rw [hl] at h1 hel ⊢
  clear hr hl
  replace h1 := Lib.hid h1
  have hs0 := hB0.size
  go_enter Try.func8, Try.ntmps8
  go_wp2_with (go_at_call 9; refine h1.out.mono ?_; rintro e w1 ⟨u, rfl, hown, hb1⟩)
  clear hW0
  have hrd := RdC.of_own entL_len hown
  obtain ⟨la, lc, hu⟩ := hrd.len
  subst hu
  have bx1 := bx0.below hb1
  have hB1 := hB0.trans (hb1.mono hs0)
  have hs1 := hB1.size
  have g0 := bx1.get 0 _ rfl
  have g1 := bx1.get 1 _ rfl
  have g2 := bx1.get 2 _ rfl
  have fr := bx1.frozen
  replace hrd := Lib.hid hrd
  replace bx1 := Lib.hid bx1
  replace hB1 := Lib.hid hB1
  clear hown hb1 bx0 hB0
  go_loop [7] (fun i => ∃ k : Nat, k ≤ l.length ∧ i = .int .i64 k ∧ Nm.findIn l n = Nm.findIn (l.drop k) n) (fun i => l.length - (intOf i).toNat)
  case atStart => exact ⟨0, by omega, rfl, rfl⟩
  case round =>
    obtain ⟨k, hk, rfl, hF⟩ := hrel
    replace hF := Lib.hid hF
    by_cases hlt : k < l.length
    · obtain ⟨bb, o, cc, hv, _, hbb, hcell⟩ := hrd.out.at (by intro e; rw [e] at hlt; simp at hlt)
      cases hv
      have c0 := hcell k hlt 0
      have c1 := hcell k hlt 1
      have c2 := hcell k hlt 2
      have hft := Lib.hid (Nm.findIn_take hlt hF.out)
      have hfh := Lib.hid (Nm.findIn_hit hlt hF.out)
      clear hcell
      obtain ⟨q, hq⟩ : ∃ q, l[k] = q := ⟨_, rfl⟩
      rw [hq] at c0 c1 c2 hft hfh
      obtain ⟨qn, qi, qk⟩ := q
      replace c0 := c0 _ rfl
      replace c1 := c1 _ rfl
      replace c2 := c2 _ rfl
      dsimp only at c0 c1 c2 hft hfh
      replace c0 : w1.cell? ⟨bb, o + k * 3, none⟩ = _ := c0
      clear hq
      have hI0 : (0 : Int) ≤ (k : Int) := by omega
      have hI1 : (k : Int) < (l.length : Int) := by omega
      by_cases hx : (qn == n) = true
      · have hfin := Lib.hid (hfh.out hx)
        go_wp2_with fail
        refine bodyPost_ret (res8 (r := ⟨qn, qi, qk⟩) (b := w.heap.size) (is := true) (((bx1.out.set 0 _).set 1 _).set 2 _) rfl rfl) rfl ?_
        exact findRes_some hfin.out (((hB1.out.setCell (p := ⟨w.heap.size, 0, none⟩) (Nat.le_refl _) _).setCell (p := ⟨w.heap.size, 1, none⟩) (Nat.le_refl _) _).setCell (p := ⟨w.heap.size, 2, none⟩) (Nat.le_refl _) _)
      · rw [Bool.not_eq_true] at hx
        have hft' := Lib.hid (hft.out hx)
        go_wp2_with fail
        go_round
        case rel => exact ⟨k + 1, by omega, by go_num, hft'.out⟩
        case measure => simp [intOf]; omega
    · have hk' : k = l.length := by omega
      subst hk'
      have hfin := Lib.hid (Nm.findIn_end hF.out)
      go_wp2_with fail
      refine bodyPost_ret (res8 (r := zeroEnt) (b := w.heap.size) (is := false) (((bx1.out.set 0 _).set 1 _).set 2 _) rfl rfl) rfl ?_
      exact findRes_none hfin.out (((hB1.out.setCell (p := ⟨w.heap.size, 0, none⟩) (Nat.le_refl _) _).setCell (p := ⟨w.heap.size, 1, none⟩) (Nat.le_refl _) _).setCell (p := ⟨w.heap.size, 2, none⟩) (Nat.le_refl _) _)
end Go.Proofs.Ytmlgjmcenjbbeaa
