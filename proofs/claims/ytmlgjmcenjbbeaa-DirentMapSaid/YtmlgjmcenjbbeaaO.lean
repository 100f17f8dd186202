/- Room, and the reference's Find. -/
import Derived.Test.YtmlgjmcenjbbeaaN
namespace Go.Proofs.Ytmlgjmcenjbbeaa
open Go.RowKit
set_option maxRecDepth 100000 in
set_option maxHeartbeats 4000000 in
theorem room_any (b : List UInt8) (v : Value) (w : World) (hr : RdB w v b) : Calls Try.prog 20 #[v] w (NumB (Nm.room b) w) := by
  have h1 := (records_any b v w hr).mono fun _ _ h => recsRes_rd h
  obtain ⟨is, his⟩ : ∃ is, (Nm.recs b).isSome = is := ⟨_, rfl⟩
  rw [his] at h1
  clear his
  have hroom := Lib.hid (show Nm.room b = Nm.roomOf ((Nm.recs b).getD []) from rfl)
  have hall := Lib.hid (Nm.recs_getD b)
  have hfr : ∀ q ∈ (Nm.recs b).getD [], 0 ≤ Nm.free q ∧ Nm.free q ≤ 256 ∧ Nm.free q % 4 = 0 ∧ 8 ≤ q.len ∧ q.len ≤ 256 ∧ q.e.name.length ≤ 48 := fun q hq => by
    obtain ⟨a, ha⟩ := hall.out.1 q hq
    refine Nm.free_of ?_ ha
    rcases h : Nm.recs b with _ | l
    · rw [h] at hq; simp at hq
    · rw [Nm.recs_len h]; exact Nat.le_refl _
  clear hr
  have hll := hall.out.2
  obtain ⟨l, hl⟩ : ∃ l, (Nm.recs b).getD [] = l := ⟨_, rfl⟩
  rw [hl] at h1 hroom hll hfr
  clear hl hall
  replace h1 := Lib.hid h1
  replace hfr := Lib.hid hfr
  go_enter Try.func20, Try.ntmps20
  go_wp2_with (go_at_call 39; refine h1.out.mono ?_; rintro e w1 ⟨u, rfl, hrd, hb1⟩; obtain ⟨la, lc, hu⟩ := hrd.len; subst hu)
  replace hrd := Lib.hid hrd
  have hs1 := hb1.size
  go_loopw [5, 15] (fun m i wr => ∃ k : Nat, k ≤ l.length ∧ i = .int .i64 k ∧ m = .int .i64 (Nm.roomOf (l.take k)) ∧ Below w1.heap.size w1 wr) (fun _ i _ => l.length - (intOf i).toNat)
  case atStart => exact ⟨0, by omega, rfl, rfl, Below.refl _ _⟩
  case round =>
    obtain ⟨k, hk, rfl, rfl, hW⟩ := hrel
    have hsz := hW.size
    by_cases hlt : k < l.length
    · obtain ⟨bb, o, cc, hv, _, hbb, hcell⟩ := (hrd.out.below hW).at (by intro e; rw [e] at hlt; simp at hlt)
      cases hv
      have hsn := Nm.roomOf_snoc (l.take k) l[k]
      rw [← List.take_succ_eq_append_getElem hlt] at hsn
      have hbd := Nm.roomOf_bd (l.take k)
      have hfq := hfr.out l[k] (List.getElem_mem hlt)
      have c0 := hcell k hlt 0
      have c1 := hcell k hlt 1
      have c2 := hcell k hlt 2
      have c3 := hcell k hlt 3
      have c4 := hcell k hlt 4
      clear hcell
      have hfc := fun W => free_any l[k] W (by omega) (by omega)
      obtain ⟨q, hq⟩ : ∃ q, l[k] = q := ⟨_, rfl⟩
      rw [hq] at c0 c1 c2 c3 c4 hsn hfq hfc
      obtain ⟨F, hF⟩ : ∃ F, Nm.free q = F := ⟨_, rfl⟩
      rw [hF] at hsn hfq hfc
      unfold recV at hfc
      obtain ⟨qa, ql, ⟨qn, qi, qk⟩⟩ := q
      replace c0 := c0 _ rfl
      replace c1 := c1 _ rfl
      replace c2 := c2 _ rfl
      replace c3 := c3 _ rfl
      replace c4 := c4 _ rfl
      dsimp only at c0 c1 c2 c3 c4 hfc
      replace c0 : wr.cell? ⟨bb, o + k * 5, none⟩ = _ := c0
      clear hq hF
      obtain ⟨R, hR⟩ : ∃ R, Nm.roomOf (l.take k) = R := ⟨_, rfl⟩
      rw [hR] at hsn hbd ⊢
      replace hR := Lib.hid hR
      replace hsn := Lib.hid hsn
      replace hfc := Lib.hid hfc
      obtain ⟨hbd1, hbd2⟩ := hbd
      obtain ⟨hf1, hf2, _⟩ := hfq
      have hI0 : (0 : Int) ≤ (k : Int) := by omega
      have hI1 : (k : Int) < (l.length : Int) := by omega
      replace hW := Lib.hid hW
      go_wp2_with (go_at_call 42; (with_reducible refine (hfc.out _).mono ?_); rintro e w2 ⟨rfl, hb2⟩)
      go_roundw
      case rel =>
        have hb3 : Below w1.heap.size w1 w2 := (hW.out.alloc hsz _).trans (hb2.mono (by rw [World.size_alloc]; omega))
        exact ⟨k + 1, by omega, by go_num, by rw [hsn.out], hb3⟩
      case measure => simp [intOf]; omega
    · have hk' : k = l.length := by omega
      subst hk'
      rw [List.take_length]
      replace hW := Lib.hid hW
      go_wp2_with fail
      go_ret
      exact ⟨by rw [hroom.out]; rfl, hb1.trans (hW.out.mono hs1)⟩
set_option maxRecDepth 100000 in
set_option maxHeartbeats 4000000 in
theorem roomr_any (b : List UInt8) (v : Value) (w : World) (hr : RdB w v b) : Calls Try.prog 21 #[v] w (NumB (Nm.room b) w) := by
  have h1 := (recordsr_any b v w hr).mono fun _ _ h => recsRes_rd h
  obtain ⟨is, his⟩ : ∃ is, (Nm.recs b).isSome = is := ⟨_, rfl⟩
  rw [his] at h1
  clear his
  have hroom := Lib.hid (show Nm.room b = Nm.roomOf ((Nm.recs b).getD []) from rfl)
  have hall := Lib.hid (Nm.recs_getD b)
  have hfr : ∀ q ∈ (Nm.recs b).getD [], 0 ≤ Nm.free q ∧ Nm.free q ≤ 256 ∧ Nm.free q % 4 = 0 ∧ 8 ≤ q.len ∧ q.len ≤ 256 ∧ q.e.name.length ≤ 48 := fun q hq => by
    obtain ⟨a, ha⟩ := hall.out.1 q hq
    refine Nm.free_of ?_ ha
    rcases h : Nm.recs b with _ | l
    · rw [h] at hq; simp at hq
    · rw [Nm.recs_len h]; exact Nat.le_refl _
  clear hr
  have hll := hall.out.2
  obtain ⟨l, hl⟩ : ∃ l, (Nm.recs b).getD [] = l := ⟨_, rfl⟩
  rw [hl] at h1 hroom hll hfr
  clear hl hall
  replace h1 := Lib.hid h1
  replace hfr := Lib.hid hfr
  go_enter Try.func21, Try.ntmps21
  go_wp2_with (go_at_call 36; refine h1.out.mono ?_; rintro e w1 ⟨u, rfl, hrd, hb1⟩; obtain ⟨la, lc, hu⟩ := hrd.len; subst hu)
  replace hrd := Lib.hid hrd
  have hs1 := hb1.size
  go_loopw [5, 6] (fun m i wr => ∃ (k : Nat) (M : Int), k ≤ l.length ∧ i = .int .i64 k ∧ m = .int .i64 M ∧ (0 ≤ M ∧ M ≤ 256) ∧ min M 48 = Nm.roomOf (l.take k) ∧ Below w1.heap.size w1 wr) (fun _ i _ => l.length - (intOf i).toNat)
  case atStart => exact ⟨0, 0, by omega, rfl, rfl, by omega, rfl, Below.refl _ _⟩
  case round =>
    obtain ⟨k, M, hk, rfl, rfl, ⟨hM1, hM2⟩, hm, hW⟩ := hrel
    have hsz := hW.size
    by_cases hlt : k < l.length
    · obtain ⟨bb, o, cc, hv, _, hbb, hcell⟩ := (hrd.out.below hW).at (by intro e; rw [e] at hlt; simp at hlt)
      cases hv
      have hsn := Nm.roomOf_snoc (l.take k) l[k]
      rw [← List.take_succ_eq_append_getElem hlt] at hsn
      have hbd := Nm.roomOf_bd (l.take k)
      have hfq := hfr.out l[k] (List.getElem_mem hlt)
      have c0 := hcell k hlt 0
      have c1 := hcell k hlt 1
      have c2 := hcell k hlt 2
      have c3 := hcell k hlt 3
      have c4 := hcell k hlt 4
      clear hcell
      have hfc := fun W => freer_any l[k] W (by omega) (by omega)
      obtain ⟨q, hq⟩ : ∃ q, l[k] = q := ⟨_, rfl⟩
      rw [hq] at c0 c1 c2 c3 c4 hsn hfq hfc
      obtain ⟨F, hF⟩ : ∃ F, Nm.free q = F := ⟨_, rfl⟩
      rw [hF] at hsn hfq hfc
      unfold recV at hfc
      obtain ⟨qa, ql, ⟨qn, qi, qk⟩⟩ := q
      replace c0 := c0 _ rfl
      replace c1 := c1 _ rfl
      replace c2 := c2 _ rfl
      replace c3 := c3 _ rfl
      replace c4 := c4 _ rfl
      dsimp only at c0 c1 c2 c3 c4 hfc
      replace c0 : wr.cell? ⟨bb, o + k * 5, none⟩ = _ := c0
      clear hq hF
      obtain ⟨R, hR⟩ : ∃ R, Nm.roomOf (l.take k) = R := ⟨_, rfl⟩
      rw [hR] at hsn hbd hm
      replace hm := Lib.hid hm
      replace hR := Lib.hid hR
      replace hsn := Lib.hid hsn
      replace hfc := Lib.hid hfc
      obtain ⟨hbd1, hbd2⟩ := hbd
      obtain ⟨hf1, hf2, hf4, _⟩ := hfq
      have hf5 : F / 4 * 4 = F := by omega
      replace hf5 := Lib.hid hf5
      have hI0 : (0 : Int) ≤ (k : Int) := by omega
      have hI1 : (k : Int) < (l.length : Int) := by omega
      replace hW := Lib.hid hW
      go_wp2_with (go_at_call 43; (with_reducible refine (hfc.out _).mono ?_); rintro e w2 ⟨rfl, hb2⟩)
      go_roundw
      case rel =>
        have hb3 : Below w1.heap.size w1 w2 := hW.out.trans (hb2.mono hsz)
        refine ⟨k + 1, _, by omega, by go_num, rfl, by omega, ?_, hb3⟩
        rw [hsn.out, ← hm.out]
        omega
      case measure => simp [intOf]; omega
    · have hk' : k = l.length := by omega
      subst hk'
      rw [List.take_length] at hm
      replace hm := Lib.hid hm
      replace hW := Lib.hid hW
      go_wp2_with fail
      go_ret
      exact ⟨by rw [hroom.out, ← hm.out]; rfl, hb1.trans (hW.out.mono hs1)⟩
end Go.Proofs.Ytmlgjmcenjbbeaa
