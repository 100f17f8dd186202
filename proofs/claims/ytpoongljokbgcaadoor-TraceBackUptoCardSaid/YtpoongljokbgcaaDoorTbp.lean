import Derived.Test.YtpoongljokbgcaaDoorTbn
import Derived.Test.YtpoongljokbgcaaDoorTbo
import Derived.Test.YtpoongljokbgcaaDoorTbi
import Derived.Deep.RegionHeld3
import Derived.Deep.DeepCutAuto
/- Whether two calls are the same but for what they do not use: the reference (slipwayref27.Same). -/
namespace Go.Proofs.YtpoongljokbgcaaDoor
open Go.RowKit
def Tr.same (a b : Opr) : Bool := Tr.eqB (Tr.plain a) (Tr.plain b)
theorem bcell {W w1 : World} (hb : Below W.heap.size W w1) : (∀ b o, b < W.heap.size → w1.cell? ⟨b, o, none⟩ = W.cell? ⟨b, o, none⟩) ∧ (∀ b o, b < W.heap.size → w1.frozen? ⟨b, o, none⟩ = W.frozen? ⟨b, o, none⟩) :=
  ⟨fun b o h => hb.cell (p := ⟨b, o, none⟩) h, fun b o h => hb.frozen (p := ⟨b, o, none⟩) h⟩
set_option maxRecDepth 100000 in
set_option maxHeartbeats 8000000 in
theorem samer_any (a b : Opr) (dv du : Value) (w : World) (hr : RdB w dv a.data) (hu : RdB w du b.data) (ha : a.kind = 7 → a.data.length ≤ 140737488355328) (hb : b.kind = 7 → b.data.length ≤ 140737488355328) :
    Calls Tryd.prog 28 #[opV a dv, opV b du] w (BoolBelow (Tr.same a b) w) := by
  have hA := Lib.hid (fun W (h : Below w.heap.size w W) => plainr_any a dv W (hr.below h) ha)
  have hB := Lib.hid (fun W (h : Below w.heap.size w W) => plainr_any b du W (hu.below h) hb)
  have hfin := Lib.hid (show Tr.same a b = Tr.eqB (Tr.plain a) (Tr.plain b) from rfl)
  obtain ⟨s, hs⟩ : ∃ s, Tr.same a b = s := ⟨_, rfl⟩
  rw [hs] at hfin ⊢
  replace hs := Lib.hid hs
  obtain ⟨pa, hpa⟩ : ∃ x, Tr.plain a = x := ⟨_, rfl⟩
  obtain ⟨pb, hpb⟩ : ∃ x, Tr.plain b = x := ⟨_, rfl⟩
  rw [hpa] at hA hfin
  rw [hpb] at hB hfin
  replace hpa := Lib.hid hpa
  replace hpb := Lib.hid hpb
  clear hr hu ha hb hs
  obtain ⟨k, p, t, f, n, l⟩ := a
  obtain ⟨k2, p2, t2, f2, n2, l2⟩ := b
  unfold opV
  dsimp only at *
  have hA' : ∀ W, Below w.heap.size w W → Calls Tryd.prog 27 #[.agg #[.int .i64 k, .string (S p), .string (S t), .int .i64 f, .int .i64 n, dv]] W (PlainRes pa W) := hA.out
  have hB' : ∀ W, Below w.heap.size w W → Calls Tryd.prog 27 #[.agg #[.int .i64 k2, .string (S p2), .string (S t2), .int .i64 f2, .int .i64 n2, du]] W (PlainRes pb W) := hB.out
  replace hA' := Lib.hid hA'
  replace hB' := Lib.hid hB'
  clear hA hB
  go_enter Tryd.func28, Tryd.ntmps28
  go_wp2_with fail
  have hB0 : Below w.heap.size w ((w.alloc (.cells #[.int .i64 k, .string (S p), .string (S t), .int .i64 f, .int .i64 n, dv] 44)).alloc (.cells #[.int .i64 k2, .string (S p2), .string (S t2), .int .i64 f2, .int .i64 n2, du] 44)) := ((Below.refl _ _).alloc (Nat.le_refl _) _).alloc (by rw [World.size_alloc]; omega) _
  have hX1 := (Box.new w 44 #[.int .i64 k, .string (S p), .string (S t), .int .i64 f, .int .i64 n, dv]).alloc (.cells #[.int .i64 k2, .string (S p2), .string (S t2), .int .i64 f2, .int .i64 n2, du] 44)
  have hX2 := Box.new (w.alloc (.cells #[.int .i64 k, .string (S p), .string (S t), .int .i64 f, .int .i64 n, dv] 44)) 44 #[.int .i64 k2, .string (S p2), .string (S t2), .int .i64 f2, .int .i64 n2, du]
  simp only [World.size_alloc] at hX2
  generalize ((w.alloc (.cells #[.int .i64 k, .string (S p), .string (S t), .int .i64 f, .int .i64 n, dv] 44)).alloc (.cells #[.int .i64 k2, .string (S p2), .string (S t2), .int .i64 f2, .int .i64 n2, du] 44)) = W0 at hB0 hX1 hX2 ⊢
  have hsz := hB0.size
  have hsz2 : w.heap.size + 1 < W0.heap.size := hX2.lt
  have g0 := hX1.get 0 _ rfl
  have g1 := hX1.get 1 _ rfl
  have g2 := hX1.get 2 _ rfl
  have g3 := hX1.get 3 _ rfl
  have g4 := hX1.get 4 _ rfl
  have g5 := hX1.get 5 _ rfl
  have d0 := hX2.get 0 _ rfl
  have d1 := hX2.get 1 _ rfl
  have d2 := hX2.get 2 _ rfl
  have d3 := hX2.get 3 _ rfl
  have d4 := hX2.get 4 _ rfl
  have d5 := hX2.get 5 _ rfl
  replace hX1 := Lib.hid hX1
  replace hX2 := Lib.hid hX2
  replace hB0 := Lib.hid hB0
  go_region_held3 (fun w' => (w'.cell? ⟨w.heap.size, 0, none⟩ = some (.int .i64 k) ∧ w'.cell? ⟨w.heap.size, 1, none⟩ = some (.string (S p)) ∧ w'.cell? ⟨w.heap.size, 2, none⟩ = some (.string (S t)) ∧ w'.cell? ⟨w.heap.size, 3, none⟩ = some (.int .i64 f) ∧ w'.cell? ⟨w.heap.size, 4, none⟩ = some (.int .i64 n) ∧ w'.cell? ⟨w.heap.size, 5, none⟩ = some dv) ∧
      (w'.cell? ⟨w.heap.size + 1, 0, none⟩ = some (.int .i64 k2) ∧ w'.cell? ⟨w.heap.size + 1, 1, none⟩ = some (.string (S p2)) ∧ w'.cell? ⟨w.heap.size + 1, 2, none⟩ = some (.string (S t2)) ∧ w'.cell? ⟨w.heap.size + 1, 3, none⟩ = some (.int .i64 f2) ∧ w'.cell? ⟨w.heap.size + 1, 4, none⟩ = some (.int .i64 n2) ∧ w'.cell? ⟨w.heap.size + 1, 5, none⟩ = some du)) 
    (first | (go_split_ands; refine ⟨⟨?_, ?_, ?_, ?_, ?_, ?_⟩, ?_, ?_, ?_, ?_, ?_, ?_⟩ <;> first | assumption | (rw [hba.cell (by simp; omega)]; assumption) | (rw [hbb.cell (by simp; omega)]; assumption) | (rw [hbc.cell (by simp; omega)]; assumption)) | go_keep)
    (first
      | (go_at_call 27; (with_reducible refine (hA'.out _ ?ga).mono ?_); (case ga => first | exact hB0.out.drew | exact hB0.out.drew.trans (hbb.mono hsz)); rintro e wa ⟨va, rfl, hra, hba⟩; have hza : W0.heap.size ≤ wa.heap.size := (by first | exact hba.size | exact Nat.le_trans hbb.size hba.size); replace hra := Lib.hid hra)
      | (go_at_call 27; (with_reducible refine (hB'.out _ ?ga).mono ?_); (case ga => first | exact hB0.out.drew | exact hB0.out.drew.trans (hba.mono hsz)); rintro e wb ⟨vb, rfl, hrb, hbb⟩; have hzb : W0.heap.size ≤ wb.heap.size := (by first | exact hbb.size | exact Nat.le_trans hba.size hbb.size); replace hrb := Lib.hid hrb)
      | (go_at_call 23; refine (exact_any pa pb va vb _ (by first | exact hra.out | exact hra.out.below hbb) (by first | exact hrb.out | exact hrb.out.below hba)).mono ?_; rintro e wc ⟨rfl, hbc⟩))
  all_goals
    go_wp2_with fail
    go_ret
    first
      | exact boolBelow_mk hfin.out rfl (((hB0.out.drew.trans (hba.mono hsz)).trans (hbb.mono (by omega))).trans (hbc.mono (by omega)))
      | exact boolBelow_mk hfin.out rfl (((hB0.out.drew.trans (hbb.mono hsz)).trans (hba.mono (by omega))).trans (hbc.mono (by omega)))
set_option maxRecDepth 100000 in
set_option maxHeartbeats 8000000 in
theorem same_any (a b : Opr) (dv du : Value) (w : World) (hG : Gl w) (hka : in64 a.kind) (hkb : in64 b.kind) (hr : RdB w dv a.data) (hu : RdB w du b.data) (ha : a.kind = 7 → a.data.length ≤ 140737488355328) (hb : b.kind = 7 → b.data.length ≤ 140737488355328) :
    Calls Tryd.prog 22 #[opV a dv, opV b du] w (BoolBelow (Tr.same a b) w) := by
  have hA := Lib.hid (fun W (h : Below w.heap.size w W) => plain_any a dv W (hG.below h) hka (hr.below h) ha)
  have hB := Lib.hid (fun W (h : Below w.heap.size w W) => plain_any b du W (hG.below h) hkb (hu.below h) hb)
  have hfin := Lib.hid (show Tr.same a b = Tr.eqB (Tr.plain a) (Tr.plain b) from rfl)
  obtain ⟨s, hs⟩ : ∃ s, Tr.same a b = s := ⟨_, rfl⟩
  rw [hs] at hfin ⊢
  replace hs := Lib.hid hs
  obtain ⟨pa, hpa⟩ : ∃ x, Tr.plain a = x := ⟨_, rfl⟩
  obtain ⟨pb, hpb⟩ : ∃ x, Tr.plain b = x := ⟨_, rfl⟩
  rw [hpa] at hA hfin
  rw [hpb] at hB hfin
  replace hpa := Lib.hid hpa
  replace hpb := Lib.hid hpb
  clear hr hu ha hb hs hG hka hkb
  obtain ⟨k, p, t, f, n, l⟩ := a
  obtain ⟨k2, p2, t2, f2, n2, l2⟩ := b
  unfold opV
  dsimp only at *
  have hA' : ∀ W, Below w.heap.size w W → Calls Tryd.prog 24 #[.agg #[.int .i64 k, .string (S p), .string (S t), .int .i64 f, .int .i64 n, dv]] W (fun e w' => ∃ ad cp, e = .returned (.agg #[.int .i64 pa.kind, .string (S pa.path), .string (S pa.dest), .int .i64 pa.off, .int .i64 pa.len, .slice ad pa.data.length cp]) ∧ RdB w' (.slice ad pa.data.length cp) pa.data ∧ Below W.heap.size W w' ∧ Below w.heap.size w w') := fun W h => (hA.out W h).mono fun e w' ⟨v, he, hr, hb⟩ => by
    obtain ⟨ad, cp, rfl⟩ := hr.len
    exact ⟨ad, cp, he, hr, hb, h.trans (hb.mono h.size)⟩
  have hB' : ∀ W, Below w.heap.size w W → Calls Tryd.prog 24 #[.agg #[.int .i64 k2, .string (S p2), .string (S t2), .int .i64 f2, .int .i64 n2, du]] W (fun e w' => ∃ ad cp, e = .returned (.agg #[.int .i64 pb.kind, .string (S pb.path), .string (S pb.dest), .int .i64 pb.off, .int .i64 pb.len, .slice ad pb.data.length cp]) ∧ RdB w' (.slice ad pb.data.length cp) pb.data ∧ Below W.heap.size W w' ∧ Below w.heap.size w w') := fun W h => (hB.out W h).mono fun e w' ⟨v, he, hr, hb⟩ => by
    obtain ⟨ad, cp, rfl⟩ := hr.len
    exact ⟨ad, cp, he, hr, hb, h.trans (hb.mono h.size)⟩
  replace hA' := Lib.hid hA'
  replace hB' := Lib.hid hB'
  clear hA hB
  go_enter Tryd.func22, Tryd.ntmps22
  go_wp2_with fail
  have hB0 : Below w.heap.size w ((w.alloc (.cells #[.int .i64 k, .string (S p), .string (S t), .int .i64 f, .int .i64 n, dv] 44)).alloc (.cells #[.int .i64 k2, .string (S p2), .string (S t2), .int .i64 f2, .int .i64 n2, du] 44)) := ((Below.refl _ _).alloc (Nat.le_refl _) _).alloc (by rw [World.size_alloc]; omega) _
  have hX1 := (Box.new w 44 #[.int .i64 k, .string (S p), .string (S t), .int .i64 f, .int .i64 n, dv]).alloc (.cells #[.int .i64 k2, .string (S p2), .string (S t2), .int .i64 f2, .int .i64 n2, du] 44)
  have hX2 := Box.new (w.alloc (.cells #[.int .i64 k, .string (S p), .string (S t), .int .i64 f, .int .i64 n, dv] 44)) 44 #[.int .i64 k2, .string (S p2), .string (S t2), .int .i64 f2, .int .i64 n2, du]
  simp only [World.size_alloc] at hX2
  generalize ((w.alloc (.cells #[.int .i64 k, .string (S p), .string (S t), .int .i64 f, .int .i64 n, dv] 44)).alloc (.cells #[.int .i64 k2, .string (S p2), .string (S t2), .int .i64 f2, .int .i64 n2, du] 44)) = W0 at hB0 hX1 hX2 ⊢
  have hsz := hB0.size
  have hsz2 : w.heap.size + 1 < W0.heap.size := hX2.lt
  have g0 := hX1.get 0 _ rfl
  have g1 := hX1.get 1 _ rfl
  have g2 := hX1.get 2 _ rfl
  have g3 := hX1.get 3 _ rfl
  have g4 := hX1.get 4 _ rfl
  have g5 := hX1.get 5 _ rfl
  have d0 := hX2.get 0 _ rfl
  have d1 := hX2.get 1 _ rfl
  have d2 := hX2.get 2 _ rfl
  have d3 := hX2.get 3 _ rfl
  have d4 := hX2.get 4 _ rfl
  have d5 := hX2.get 5 _ rfl
  replace hX1 := Lib.hid hX1
  replace hX2 := Lib.hid hX2
  replace hB0 := Lib.hid hB0
  go_upto_region 1 with fail
  go_cut [5, 6] (fun p5 p6 wx => ∃ (b5 b6 : Nat) (va vb : Value), p5 = .pointer (some ⟨b5, 0, none⟩) ∧ p6 = .pointer (some ⟨b6, 0, none⟩) ∧ Box wx b5 44 #[.int .i64 pa.kind, .string (S pa.path), .string (S pa.dest), .int .i64 pa.off, .int .i64 pa.len, va] ∧ Box wx b6 44 #[.int .i64 pb.kind, .string (S pb.path), .string (S pb.dest), .int .i64 pb.off, .int .i64 pb.len, vb] ∧ RdB wx va pa.data ∧ RdB wx vb pb.data ∧ Below w.heap.size w wx)
  case first =>
    clear g0 g1 g2 g3 g4 g5 d0 d1 d2 d3 d4 d5
    rename_i J1 K1 hJ1 hM1
    refine wp_region_inv (by kernel_rfl) (Inv := Inv22 w #[.int .i64 k, .string (S p), .string (S t), .int .i64 f, .int .i64 n, dv] #[.int .i64 k2, .string (S p2), .string (S t2), .int .i64 f2, .int .i64 n2, du] pa pb) ?hlen ?hstep ?hend ?h0
    case hlen =>
      rintro l' a' w' ⟨u5, u6, u8, u9, u10, u11, rfl, h⟩
      rcases h with ⟨d0, d1, d2, d3, d4, d5, rfl, _⟩ | ⟨rfl, _⟩ | ⟨rfl, _⟩ <;> rfl
    case h0 =>
      exact ⟨undef, undef, undef, undef, undef, undef, rfl, .inl ⟨false, false, false, false, false, false, rfl, ⟨hX1.out, hX2.out, hB0.out.drew, nofun, nofun, nofun, nofun, nofun, nofun, nofun, nofun⟩⟩⟩
    case hend =>
      rintro l' a' w' ⟨u5, u6, u8, u9, u10, u11, rfl, h⟩ hr
      rcases h with ⟨d0, d1, d2, d3, d4, d5, rfl, _⟩ | ⟨rfl, _⟩ | ⟨rfl, he⟩
      · exfalso
        have n : ∀ j, ¬ j ∈ ([] : List Nat) := by simp
        rw [← hr] at n
        cases d0 with
        | false => exact n 0 (mem_ready.2 ⟨rfl, _, rfl, by simp⟩)
        | true =>
          cases d2 with
          | false => exact n 2 (mem_ready.2 ⟨rfl, _, rfl, by simp⟩)
          | true =>
            cases d4 with
            | false => exact n 4 (mem_ready.2 ⟨rfl, _, rfl, by simp⟩)
            | true =>
              cases d5 with
              | false => exact n 5 (mem_ready.2 ⟨rfl, _, rfl, by simp⟩)
              | true =>
                cases d1 with
                | false => exact n 1 (mem_ready.2 ⟨rfl, _, rfl, by simp⟩)
                | true =>
                  cases d3 with
                  | false => exact n 3 (mem_ready.2 ⟨rfl, _, rfl, by simp⟩)
                  | true => exact n 6 (mem_ready.2 ⟨rfl, _, rfl, by simp⟩)
      · exfalso
        have n : ∀ j, ¬ j ∈ ([] : List Nat) := by simp
        rw [← hr] at n
        exact n 7 (mem_ready.2 ⟨rfl, _, rfl, by simp⟩)
      · obtain ⟨b5, b6, aa, ca, ab, cb, rfl, rfl, x5, x6, rA, rB, hbw⟩ := he
        refine hM1 _ _ ?_
        dsimp only [fr22]
        go_meet
        exact ⟨b5, b6, _, _, rfl, rfl, x5, x6, rA, rB, hbw⟩
    case hstep =>
      rintro l' a' w' ⟨u5, u6, u8, u9, u10, u11, rfl, h⟩ i hi
      obtain ⟨hf, o, ho, hall⟩ := mem_ready.1 hi
      clear hi
      rcases h with ⟨d0, d1, d2, d3, d4, d5, rfl, hp⟩ | ⟨rfl, hm⟩ | ⟨rfl, he⟩
      · match i, hf, ho with
        | 0, hf, ho =>
          simp at hf
          subst hf
          have a0 := hp.bA.get 0 _ rfl
          have a1 := hp.bA.get 1 _ rfl
          have a2 := hp.bA.get 2 _ rfl
          have a3 := hp.bA.get 3 _ rfl
          have a4 := hp.bA.get 4 _ rfl
          have a5 := hp.bA.get 5 _ rfl
          refine wpOp_step rfl (fun K' hK => ?_)
          replace hK := Lib.hid hK
          replace hp := Lib.hid hp
          clear hall ho
          go_simp
          refine hK.out _ _ ?_
          exact ⟨u5, u6, _, u9, u10, u11, rfl, .inl ⟨true, d1, d2, d3, d4, d5, rfl, { hp.out with h0 := fun _ => rfl }⟩⟩
        | 1, hf, ho =>
          simp at hf
          subst hf
          have e0 : d0 = true := by
            have ho' := (Option.some.inj ho).symm
            subst ho'
            simpa [Region.binds] using hall
          subst e0
          obtain rfl := hp.h0 rfl
          refine wpOp_step rfl (fun K' hK => ?_)
          replace hK := Lib.hid hK
          have hC := Lib.hid (hA'.out w' hp.bel)
          replace hp := Lib.hid hp
          clear hall ho
          go_simp
          refine hC.out.mono ?_
          rintro e w1 ⟨ad, cp, rfl, hr, hb, hw⟩
          go_simp
          refine hK.out _ _ ?_
          have hp1 := hp.out.below hb
          exact ⟨u5, u6, _, _, u10, u11, rfl, .inl ⟨true, true, d2, d3, d4, d5, rfl, { hp1 with h1 := fun _ => ⟨ad, cp, rfl, hr⟩ }⟩⟩
        | 2, hf, ho =>
          simp at hf
          subst hf
          have a0 := hp.bB.get 0 _ rfl
          have a1 := hp.bB.get 1 _ rfl
          have a2 := hp.bB.get 2 _ rfl
          have a3 := hp.bB.get 3 _ rfl
          have a4 := hp.bB.get 4 _ rfl
          have a5 := hp.bB.get 5 _ rfl
          refine wpOp_step rfl (fun K' hK => ?_)
          replace hK := Lib.hid hK
          replace hp := Lib.hid hp
          clear hall ho
          go_simp
          refine hK.out _ _ ?_
          exact ⟨u5, u6, u8, u9, _, u11, rfl, .inl ⟨d0, d1, true, d3, d4, d5, rfl, { hp.out with h2 := fun _ => rfl, o31 := fun _ => rfl }⟩⟩
        | 3, hf, ho =>
          simp at hf
          subst hf
          have e0 : d2 = true := by
            have ho' := (Option.some.inj ho).symm
            subst ho'
            simp [Region.binds] at hall
            exact hall.1
          subst e0
          obtain rfl := hp.h2 rfl
          refine wpOp_step rfl (fun K' hK => ?_)
          replace hK := Lib.hid hK
          have hC := Lib.hid (hB'.out w' hp.bel)
          replace hp := Lib.hid hp
          clear hall ho
          go_simp
          refine hC.out.mono ?_
          rintro e w1 ⟨ad, cp, rfl, hr, hb, hw⟩
          go_simp
          refine hK.out _ _ ?_
          have hp1 := hp.out.below hb
          exact ⟨u5, u6, _, _, _, _, rfl, .inl ⟨d0, d1, true, true, d4, d5, rfl, { hp1 with h3 := fun _ => ⟨ad, cp, rfl, hr⟩, o31 := fun _ => rfl }⟩⟩
        | 4, hf, ho =>
          simp at hf
          subst hf
          refine wpOp_step rfl (fun K' hK => ?_)
          replace hK := Lib.hid hK
          replace hp := Lib.hid hp
          clear hall ho
          go_simp
          refine hK.out _ _ ?_
          have hp1 := hp.out.below ((Below.refl _ w').alloc (Nat.le_refl _) (.cells zero44 44))
          have hlt := hp.out.bB.lt
          exact ⟨_, u6, u8, u9, u10, u11, rfl, .inl ⟨d0, d1, d2, d3, true, d5, rfl, { hp1 with
            h4 := fun _ => ⟨w'.heap.size, rfl, hlt, Box.new w' 44 zero44⟩
            ne := fun _ h5 b c e1 e2 => by
              obtain ⟨b', e3, _, x⟩ := hp.out.h5 h5
              cases e1
              rw [e3] at e2
              cases e2
              have := x.lt
              omega }⟩⟩
        | 5, hf, ho =>
          simp at hf
          subst hf
          refine wpOp_step rfl (fun K' hK => ?_)
          replace hK := Lib.hid hK
          replace hp := Lib.hid hp
          clear hall ho
          go_simp
          refine hK.out _ _ ?_
          have hp1 := hp.out.below ((Below.refl _ w').alloc (Nat.le_refl _) (.cells zero44 44))
          have hlt := hp.out.bB.lt
          exact ⟨u5, _, u8, u9, u10, u11, rfl, .inl ⟨d0, d1, d2, d3, d4, true, rfl, { hp1 with
            h5 := fun _ => ⟨w'.heap.size, rfl, hlt, Box.new w' 44 zero44⟩
            ne := fun h4 _ b c e1 e2 => by
              obtain ⟨b', e3, _, x⟩ := hp.out.h4 h4
              cases e2
              rw [e3] at e1
              cases e1
              have := x.lt
              omega }⟩⟩
        | 6, hf, ho =>
          have hall' : d4 = true ∧ d1 = true ∧ d3 = true ∧ d0 = true ∧ d5 = true := by
            have ho' := (Option.some.inj ho).symm
            subst ho'
            simp [Region.binds] at hall
            simp [hall]
          obtain ⟨rfl, rfl, rfl, rfl, rfl⟩ := hall'
          obtain ⟨b5, rfl, l5, x5⟩ := hp.h4 rfl
          obtain ⟨b6, rfl, l6, x6⟩ := hp.h5 rfl
          have hne := hp.ne rfl rfl b5 b6 rfl rfl
          obtain ⟨aa, ca, rfl, rA⟩ := hp.h1 rfl
          obtain ⟨ab, cb, rfl, rB⟩ := hp.h3 rfl
          have d2t : d2 = true := hp.o31 rfl
          subst d2t
          refine wpOp_step rfl (fun K' hK => ?_)
          replace hK := Lib.hid hK
          replace hp := Lib.hid hp
          clear hall ho
          have g0 := x5.get 0 _ rfl
          have f0 := x5.frozen 0
          have g1 := x5.get 1 _ rfl
          have f1 := x5.frozen 1
          have g2 := x5.get 2 _ rfl
          have f2 := x5.frozen 2
          have g3 := x5.get 3 _ rfl
          have f3 := x5.frozen 3
          have g4 := x5.get 4 _ rfl
          have f4 := x5.frozen 4
          have g5 := x5.get 5 _ rfl
          have f5 := x5.frozen 5
          go_simp
          refine hK.out _ _ ?_
          exact ⟨_, _, _, _, _, _, rfl, .inr (.inl ⟨rfl, b5, b6, aa, ca, ab, cb, rfl, rfl, rfl, six_box x5 rfl pa aa ca, six_far x6 hne pa aa ca, Ne.symm hne, by omega, (six_rd (rdX_of rA x5 noU8_zero) pa aa ca).rd, (six_rd (rdX_of rB x5 noU8_zero) pa aa ca).rd, six_below hp.out.bel (by omega) pa aa ca, rfl⟩)⟩
        | 7, hf, ho =>
          exfalso
          have ho' := (Option.some.inj ho).symm
          subst ho'
          simp [Region.binds] at hall
        | i + 8, hf, ho => simp at ho
      · obtain rfl : i = 7 := by
          match i, hf, ho with
          | 7, _, _ => rfl
          | 0, hf, _ | 1, hf, _ | 2, hf, _ | 3, hf, _ | 4, hf, _ | 5, hf, _ | 6, hf, _ => simp at hf
          | i + 8, _, ho => simp at ho
        obtain ⟨b5, b6, aa, ca, ab, cb, rfl, rfl, rfl, x6', x5, hne, l6, rA, rB, hbw, -⟩ := hm
        refine wpOp_step rfl (fun K' hK => ?_)
        replace hK := Lib.hid hK
        clear hall ho hf
        have g0 := x5.get 0 _ rfl
        have f0 := x5.frozen 0
        have g1 := x5.get 1 _ rfl
        have f1 := x5.frozen 1
        have g2 := x5.get 2 _ rfl
        have f2 := x5.frozen 2
        have g3 := x5.get 3 _ rfl
        have f3 := x5.frozen 3
        have g4 := x5.get 4 _ rfl
        have f4 := x5.frozen 4
        have g5 := x5.get 5 _ rfl
        have f5 := x5.frozen 5
        replace x6' := Lib.hid x6'
        go_simp
        refine hK.out _ _ ?_
        exact ⟨_, _, _, _, _, _, rfl, .inr (.inr ⟨rfl, b5, b6, aa, ca, ab, cb, rfl, rfl, six_far x6'.out hne pb ab cb, six_box x5 rfl pb ab cb, (six_rd (rdX_of rA x5 noU8_zero) pb ab cb).rd, (six_rd (rdX_of rB x5 noU8_zero) pb ab cb).rd, six_below hbw l6 pb ab cb⟩)⟩
      · exfalso
        match i, hf, ho with
        | 0, hf, _ | 1, hf, _ | 2, hf, _ | 3, hf, _ | 4, hf, _ | 5, hf, _ | 6, hf, _ | 7, hf, _ => simp at hf
        | i + 8, _, ho => simp at ho
  case rest =>
    obtain ⟨b5, b6, va, vb, rfl, rfl, x5, x6, rA, rB, hbw⟩ := hcut
    clear hA' hB' hB0 hX1 hX2 hsz hsz2 g0 g1 g2 g3 g4 g5 d0 d1 d2 d3 d4 d5 hpa hpb
    obtain ⟨k1, p1, t1, f1, n1, l1⟩ := pa
    obtain ⟨k9, p9, t9, f9, n9, l9⟩ := pb
    dsimp only at *
    have g0 := x5.get 0 _ rfl
    have g1 := x5.get 1 _ rfl
    have g2 := x5.get 2 _ rfl
    have g3 := x5.get 3 _ rfl
    have g4 := x5.get 4 _ rfl
    have g5 := x5.get 5 _ rfl
    have d0 := x6.get 0 _ rfl
    have d1 := x6.get 1 _ rfl
    have d2 := x6.get 2 _ rfl
    have d3 := x6.get 3 _ rfl
    have d4 := x6.get 4 _ rfl
    have d5 := x6.get 5 _ rfl
    have hC := Lib.hid (Tryd.bytes_Equal_strs va vb (S l1) (S l9) wc (convert_rd (P := Tryd.prog) Tryd.underlying28 Tryd.underlying5 Tryd.underlying9 rA) (convert_rd (P := Tryd.prog) Tryd.underlying28 Tryd.underlying5 Tryd.underlying9 rB))
    replace hbw := Lib.hid hbw
    replace hfin := hfin.out
    clear x5 x6 rA rB
    by_cases hk : k1 = k9
    case neg =>
      have ek : (k1 == k9) = false := by simpa using hk
      replace hfin := Lib.hid (show s = false by rw [hfin]; unfold Tr.eqB; simp [ek])
      clear hk
      go_wp2_with fail
      go_ret
      exact boolBelow_mk hfin.out rfl hbw.out
    have ek : (k1 == k9) = true := by simpa using hk
    clear hk
    by_cases hp : p1 = p9
    case neg =>
      have ep : (p1 == p9) = false := by simpa using hp
      replace hfin := Lib.hid (show s = false by rw [hfin]; unfold Tr.eqB; simp [ek, ep])
      clear hp
      go_wp2_with fail
      go_ret
      exact boolBelow_mk hfin.out rfl hbw.out
    have ep : (p1 == p9) = true := by simpa using hp
    clear hp
    by_cases ht : t1 = t9
    case neg =>
      have et : (t1 == t9) = false := by simpa using ht
      replace hfin := Lib.hid (show s = false by rw [hfin]; unfold Tr.eqB; simp [ek, ep, et])
      clear ht
      go_wp2_with fail
      go_ret
      exact boolBelow_mk hfin.out rfl hbw.out
    have et : (t1 == t9) = true := by simpa using ht
    clear ht
    by_cases hf : f1 = f9
    case neg =>
      have ef : (f1 == f9) = false := by simpa using hf
      replace hfin := Lib.hid (show s = false by rw [hfin]; unfold Tr.eqB; simp [ek, ep, et, ef])
      clear hf
      go_wp2_with fail
      go_ret
      exact boolBelow_mk hfin.out rfl hbw.out
    have ef : (f1 == f9) = true := by simpa using hf
    clear hf
    by_cases hn : n1 = n9
    case neg =>
      have en : (n1 == n9) = false := by simpa using hn
      replace hfin := Lib.hid (show s = false by rw [hfin]; unfold Tr.eqB; simp [ek, ep, et, ef, en])
      clear hn
      go_wp2_with fail
      go_ret
      exact boolBelow_mk hfin.out rfl hbw.out
    have en : (n1 == n9) = true := by simpa using hn
    clear hn
    replace hfin := Lib.hid (show s = (l1 == l9) by rw [hfin]; unfold Tr.eqB; simp [ek, ep, et, ef, en])
    go_wp2_with fail
    refine hC.out.mono ?_
    rintro e w' ⟨rfl, rfl⟩
    go_wp2_with fail
    go_ret
    exact boolBelow_mk hfin.out (by simp) hbw.out
end Go.Proofs.YtpoongljokbgcaaDoor
