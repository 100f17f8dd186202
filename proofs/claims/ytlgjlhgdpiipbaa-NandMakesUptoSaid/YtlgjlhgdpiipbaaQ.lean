/- may and the reference's events. -/
import Derived.Test.YtlgjlhgdpiipbaaP
namespace Go.Proofs.Ytlgjlhgdpiipbaa
open Go.RowKit
def evOk (last : Int) (e : Ev) : Prop := ¬ e.at_ ≤ last ∧ (e.kind = 1 ∨ e.kind = 2) ∧ e.mask.length ≤ 288
instance (last : Int) (e : Ev) : Decidable (evOk last e) := by unfold evOk; infer_instance
/-- May these events be? -/
def mayFrom : Int → List Ev → Bool
  | _, [] => true
  | last, e :: r => if evOk last e then mayFrom e.at_ r else false
theorem mayFrom_yes {last : Int} {e : Ev} {r : List Ev} (h : evOk last e) : mayFrom last (e :: r) = mayFrom e.at_ r := if_pos h
theorem mayFrom_no {last : Int} {e : Ev} {r : List Ev} (h : ¬ evOk last e) : mayFrom last (e :: r) = false := if_neg h
theorem mayFrom_mask : ∀ {evs : List Ev} {last : Int}, mayFrom last evs = true → ∀ e ∈ evs, e.mask.length ≤ 288
  | [], _, _, e, he => by simp at he
  | a :: r, last, h, e, he => by
    by_cases ha : evOk last a
    · rw [mayFrom_yes ha] at h
      rcases List.mem_cons.1 he with rfl | he
      · exact ha.2.2
      · exact mayFrom_mask h e he
    · rw [mayFrom_no ha] at h; cases h
theorem same_of_below {W W' : World} {B : Nat} (h : Below B W W') : Same (fun b => b < B) W W' := ⟨fun b hb => h.block b hb, h.size⟩
theorem EvS.at {W : World} {R : Nat → Prop} {v : Value} {evs : List Ev} (h : EvS W R v evs) (hne : evs ≠ []) :
    ∃ b o cap, v = .slice (some ⟨b, o, none⟩) evs.length cap ∧ evs.length ≤ cap ∧ b < W.heap.size ∧ R b ∧ ∀ j (hj : j < evs.length), ∃ mv, W.cell? ⟨b, o + j * 3, none⟩ = some (.int .i64 evs[j].at_) ∧ W.cell? ⟨b, o + j * 3 + 1, none⟩ = some (.int .i64 evs[j].kind) ∧ W.cell? ⟨b, o + j * 3 + 2, none⟩ = some mv ∧ ∀ W', Same R W W' → RdB W' mv evs[j].mask := by
  obtain ⟨a, cap, rfl, hc, h3⟩ := h
  match evs, hne with
  | x :: xs, _ =>
    obtain ⟨b, o, _, rfl, hb, hR, _⟩ := h3 0 x rfl
    refine ⟨b, o, cap, rfl, hc, hb, hR, fun j hj => ?_⟩
    obtain ⟨b', o', mv, e, _, _, h4, h5, h6, h7⟩ := h3 j _ (List.getElem?_eq_getElem hj)
    cases e
    exact ⟨mv, h4, h5, h6, h7⟩
theorem EvS.len {W : World} {R : Nat → Prop} {v : Value} {evs : List Ev} (h : EvS W R v evs) : ∃ a cap, v = .slice a evs.length cap := by
  obtain ⟨a, cap, h1, _⟩ := h; exact ⟨a, cap, h1⟩
set_option maxRecDepth 100000 in
set_option maxHeartbeats 4000000 in
theorem may_any (evs : List Ev) (v : Value) (w : World) (B : Nat) (hB0 : B ≤ w.heap.size) (hl : evs.length ≤ 9223372036854775807) (he : EvS w (fun b => b < B) v evs) : Calls Try.prog 32 #[v] w fun e w' => e = .returned (.bool (mayFrom 0 evs)) ∧ Below w.heap.size w w' := by
  obtain ⟨va, vc, rfl⟩ := he.len
  have hew := Lib.hid (fun (W : World) (hW : Below w.heap.size w W) => he.same (⟨fun b hb => hW.block b (Nat.lt_of_lt_of_le hb hB0), hW.size⟩ : Same (fun b => b < B) w W))
  clear he
  go_enter Try.func32, Try.ntmps32
  go_wp2_with fail
  go_loopw [3, 8] (fun last i wr => ∃ (k : Nat) (z : Int), k ≤ evs.length ∧ i = .int .i64 k ∧ last = .int .i64 z ∧ mayFrom 0 evs = mayFrom z (evs.drop k) ∧ Below w.heap.size w wr) (fun _ i _ => evs.length - (intOf i).toNat)
  case atStart => exact ⟨0, 0, by omega, rfl, rfl, rfl, Below.refl _ _⟩
  case round =>
    obtain ⟨k, z, hk, rfl, rfl, hm, hB⟩ := hrel
    by_cases hlt : k < evs.length
    · obtain ⟨bb, o, cc, hv, _, _, _, hcell⟩ := (hew.out wr hB).at (by intro e; rw [e] at hlt; simp at hlt)
      cases hv
      obtain ⟨mv, c0, c1, c2, hmv⟩ := hcell k hlt
      rw [List.drop_eq_getElem_cons hlt] at hm
      obtain ⟨ma, mc, hme⟩ := (hmv wr (Same.refl _ _)).len
      obtain ⟨q, hq⟩ : ∃ q, evs[k] = q := ⟨_, rfl⟩
      rw [hq] at c0 c1 hm hme
      clear hcell hmv hq
      subst hme
      have hyes := fun h => hm.trans (mayFrom_yes (last := z) (e := q) (r := evs.drop (k + 1)) h)
      have hno := fun h => hm.trans (mayFrom_no (last := z) (e := q) (r := evs.drop (k + 1)) h)
      have hok : evOk z q ↔ (¬ q.at_ ≤ z ∧ (q.kind = 1 ∨ q.kind = 2) ∧ q.mask.length ≤ 288) := Iff.rfl
      obtain ⟨ea, ek, em⟩ := q
      dsimp only at c0 c1 c2 hyes hno hok
      obtain ⟨ml, hml⟩ : ∃ ml, em.length = ml := ⟨_, rfl⟩
      rw [hml] at c2 hok
      replace hml := Lib.hid hml
      clear hm
      have hI0 : (0 : Int) ≤ (k : Int) := by omega
      have hI1 : (k : Int) < (evs.length : Int) := by omega
      have bx := Box.new wr 67 #[.int .i64 ea, .int .i64 ek, .slice ma ml mc]
      have x0 := bx.get 0 _ rfl
      have x1 := bx.get 1 _ rfl
      have x2 := bx.get 2 _ rfl
      have hBx := Lib.hid (hB.alloc hB.size (.cells #[.int .i64 ea, .int .i64 ek, .slice ma ml mc] 67))
      clear bx hB
      replace hok := Lib.hid hok
      replace hyes := Lib.hid hyes
      replace hno := Lib.hid hno
      by_cases h1 : ea ≤ z
      · have hf := Lib.hid (hno.out (fun h => (hok.out.1 h).1 h1))
        go_wp2_with fail
        go_ret
        exact ⟨by rw [hf.out]; rfl, hBx.out⟩
      by_cases h2 : ek = 1
      case neg =>
        have z2 : (ek != 1) = true := by simpa using h2
        by_cases h3 : ek = 2
        case neg =>
          have z3 : (ek != 2) = true := by simpa using h3
          have hf := Lib.hid (hno.out (fun h => by have := (hok.out.1 h).2.1; omega))
          clear h2 h3
          go_wp2_with fail
          go_ret
          exact ⟨by rw [hf.out]; rfl, hBx.out⟩
        have z3 : (ek != 2) = false := by simpa using h3
        by_cases h4 : ml ≤ 288
        case neg =>
          have z4 : (ml : Int) > 288 := by omega
          have hf := Lib.hid (hno.out (fun h => h4 (hok.out.1 h).2.2))
          clear h2 h3
          go_wp2_with fail
          go_ret
          exact ⟨by rw [hf.out]; rfl, hBx.out⟩
        have z4 : ¬ (ml : Int) > 288 := by omega
        have hf := Lib.hid (hyes.out (hok.out.2 ⟨h1, .inr h3, h4⟩))
        clear h2 h3
        go_wp2_with fail
        go_roundw
        case rel => exact ⟨k + 1, ea, by omega, by go_num, rfl, hf.out, hBx.out⟩
        case measure => simp [intOf]; omega
      have z2 : (ek != 1) = false := by simpa using h2
      by_cases h4 : ml ≤ 288
      case neg =>
        have z4 : (ml : Int) > 288 := by omega
        have hf := Lib.hid (hno.out (fun h => h4 (hok.out.1 h).2.2))
        clear h2
        go_wp2_with fail
        go_ret
        exact ⟨by rw [hf.out]; rfl, hBx.out⟩
      have z4 : ¬ (ml : Int) > 288 := by omega
      have hf := Lib.hid (hyes.out (hok.out.2 ⟨h1, .inl h2, h4⟩))
      clear h2
      go_wp2_with fail
      go_roundw
      case rel => exact ⟨k + 1, ea, by omega, by go_num, rfl, hf.out, hBx.out⟩
      case measure => simp [intOf]; omega
    · have hk' : k = evs.length := by omega
      subst hk'
      rw [List.drop_length] at hm
      replace hm := Lib.hid hm
      replace hB := Lib.hid hB
      go_wp2_with fail
      go_ret
      exact ⟨by rw [hm.out]; rfl, hB.out⟩
set_option maxRecDepth 100000 in
set_option maxHeartbeats 4000000 in
theorem events_any (evs : List Ev) (v : Value) (w : World) (B : Nat) (hB0 : B ≤ w.heap.size) (hl : evs.length ≤ 9223372036854775807) (he : EvS w (fun b => b < B) v evs) : Calls Try.prog 35 #[v] w fun e w' => e = .returned (.bool (mayFrom 0 evs)) ∧ Below w.heap.size w w' := by
  obtain ⟨va, vc, rfl⟩ := he.len
  have hew := Lib.hid (fun (W : World) (hW : Below w.heap.size w W) => he.same (⟨fun b hb => hW.block b (Nat.lt_of_lt_of_le hb hB0), hW.size⟩ : Same (fun b => b < B) w W))
  clear he
  go_enter Try.func35, Try.ntmps35
  go_wp2_with fail
  go_loopw [3, 4] (fun last i wr => ∃ (k : Nat) (z : Int), k ≤ evs.length ∧ i = .int .i64 k ∧ last = .int .i64 z ∧ mayFrom 0 evs = mayFrom z (evs.drop k) ∧ Below w.heap.size w wr) (fun _ i _ => evs.length - (intOf i).toNat)
  case atStart => exact ⟨0, 0, by omega, rfl, rfl, rfl, Below.refl _ _⟩
  case round =>
    obtain ⟨k, z, hk, rfl, rfl, hm, hB⟩ := hrel
    by_cases hlt : k < evs.length
    · obtain ⟨bb, o, cc, hv, _, _, _, hcell⟩ := (hew.out wr hB).at (by intro e; rw [e] at hlt; simp at hlt)
      cases hv
      obtain ⟨mv, c0, c1, c2, hmv⟩ := hcell k hlt
      rw [List.drop_eq_getElem_cons hlt] at hm
      obtain ⟨ma, mc, hme⟩ := (hmv wr (Same.refl _ _)).len
      obtain ⟨q, hq⟩ : ∃ q, evs[k] = q := ⟨_, rfl⟩
      rw [hq] at c0 c1 hm hme
      clear hcell hmv hq
      subst hme
      have hyes := fun h => hm.trans (mayFrom_yes (last := z) (e := q) (r := evs.drop (k + 1)) h)
      have hno := fun h => hm.trans (mayFrom_no (last := z) (e := q) (r := evs.drop (k + 1)) h)
      have hok : evOk z q ↔ (¬ q.at_ ≤ z ∧ (q.kind = 1 ∨ q.kind = 2) ∧ q.mask.length ≤ 288) := Iff.rfl
      obtain ⟨ea, ek, em⟩ := q
      dsimp only at c0 c1 c2 hyes hno hok
      obtain ⟨ml, hml⟩ : ∃ ml, em.length = ml := ⟨_, rfl⟩
      rw [hml] at c2 hok
      replace hml := Lib.hid hml
      clear hm
      have hI0 : (0 : Int) ≤ (k : Int) := by omega
      have hI1 : (k : Int) < (evs.length : Int) := by omega
      have hBx := Lib.hid hB
      clear hB
      replace hok := Lib.hid hok
      replace hyes := Lib.hid hyes
      replace hno := Lib.hid hno
      by_cases h1 : ea ≤ z
      · have hf := Lib.hid (hno.out (fun h => (hok.out.1 h).1 h1))
        go_wp2_with fail
        go_ret
        exact ⟨by rw [hf.out]; rfl, hBx.out⟩
      by_cases h2 : ek = 1
      case neg =>
        have z2 : (ek != 1) = true := by simpa using h2
        by_cases h3 : ek = 2
        case neg =>
          have z3 : (ek != 2) = true := by simpa using h3
          have hf := Lib.hid (hno.out (fun h => by have := (hok.out.1 h).2.1; omega))
          clear h2 h3
          go_wp2_with fail
          go_ret
          exact ⟨by rw [hf.out]; rfl, hBx.out⟩
        have z3 : (ek != 2) = false := by simpa using h3
        by_cases h4 : ml ≤ 288
        case neg =>
          have z4 : (ml : Int) > 288 := by omega
          have hf := Lib.hid (hno.out (fun h => h4 (hok.out.1 h).2.2))
          clear h2 h3
          go_wp2_with fail
          go_ret
          exact ⟨by rw [hf.out]; rfl, hBx.out⟩
        have z4 : ¬ (ml : Int) > 288 := by omega
        have hf := Lib.hid (hyes.out (hok.out.2 ⟨h1, .inr h3, h4⟩))
        clear h2 h3
        go_wp2_with fail
        go_roundw
        case rel => exact ⟨k + 1, ea, by omega, by go_num, rfl, hf.out, hBx.out⟩
        case measure => simp [intOf]; omega
      have z2 : (ek != 1) = false := by simpa using h2
      by_cases h4 : ml ≤ 288
      case neg =>
        have z4 : (ml : Int) > 288 := by omega
        have hf := Lib.hid (hno.out (fun h => h4 (hok.out.1 h).2.2))
        clear h2
        go_wp2_with fail
        go_ret
        exact ⟨by rw [hf.out]; rfl, hBx.out⟩
      have z4 : ¬ (ml : Int) > 288 := by omega
      have hf := Lib.hid (hyes.out (hok.out.2 ⟨h1, .inl h2, h4⟩))
      clear h2
      go_wp2_with fail
      go_roundw
      case rel => exact ⟨k + 1, ea, by omega, by go_num, rfl, hf.out, hBx.out⟩
      case measure => simp [intOf]; omega
    · have hk' : k = evs.length := by omega
      subst hk'
      rw [List.drop_length] at hm
      replace hm := Lib.hid hm
      replace hB := Lib.hid hB
      go_wp2_with fail
      go_ret
      exact ⟨by rw [hm.out]; rfl, hB.out⟩
end Go.Proofs.Ytlgjlhgdpiipbaa
