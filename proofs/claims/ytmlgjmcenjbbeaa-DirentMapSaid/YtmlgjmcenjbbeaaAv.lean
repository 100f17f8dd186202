/- DirentBack returns true. -/
import Derived.Test.YtmlgjmcenjbbeaaAo
import Derived.Test.YtmlgjmcenjbbeaaAc
namespace Go.Proofs.Ytmlgjmcenjbbeaa
open Go.RowKit
/-- Entries that read so. -/
def EntsRd (E : List Ent) (w : World) (e : Ending) (w' : World) : Prop := ∃ u, e = .returned u ∧ RdE w' u E ∧ Below w.heap.size w w'
/-- An iterator that tells these entries. -/
def TellRes (E : List Ent) (w : World) (e : Ending) (w' : World) : Prop :=
  ∃ Bl, e = .returned (.func (.func 44) #[] #[.pointer (some ⟨Bl, 0, none⟩)]) ∧ Below w.heap.size w w' ∧ Calls Try.prog 23 #[.func (.func 44) #[] #[.pointer (some ⟨Bl, 0, none⟩)], .int .i64 999] w' (EntsRd E w')
theorem tell_any (b : List UInt8) (E : List Ent) (h : Nm.ents b = E) (v : Value) (w : World) (hr : RdB w v b) : Calls Try.prog 24 #[v] w (TellRes E w) := by
  refine (entries_any b v w hr).mono ?_
  rintro e w' ⟨Bl, la, lc, rfl, _, hbx, hrd, hla, hb⟩
  have h32 := (Nm.recs_getD b).2
  refine ⟨Bl, rfl, hb, ?_⟩
  have := seq_told _ h32 Bl la lc w w' hbx hrd hla 999 999 rfl (by decide)
  have hE : (Nm.entsOf ((Nm.recs b).getD [])).take 999 = E := by
    rw [← h]
    refine List.take_of_length_le ?_
    have := Nm.entsOf_len ((Nm.recs b).getD [])
    omega
  rw [hE] at this
  exact this
namespace Nm
theorem make_or : ∀ (l : List Ent) (b : List UInt8), (∃ c, makeFrom b l = (some c, 0)) ∨ ∃ x, makeFrom b l = (none, x) ∧ x ≠ 0
  | [], b => .inl ⟨b, rfl⟩
  | e :: l, b => by
    rcases add_or b e with ⟨d, hd⟩ | ⟨x, hx, h0⟩
    · rw [makeFrom_some hd]; exact make_or l d
    · rw [makeFrom_none hx]; exact .inr ⟨x, rfl, h0⟩
end Nm
set_option maxRecDepth 100000 in
set_option maxHeartbeats 8000000 in
theorem back_any (es : List Ent) (e : Ent) (u : Value) (w : World) (hu : RdE w u es) : Calls Try.prog 4 #[u, entV e] w (BoolB true w) := by
  obtain ⟨la, lc, rfl⟩ := hu.len
  have hlc : es.length ≤ lc := by obtain ⟨_, _, h1, h2, _⟩ := hu; cases h1; exact h2
  obtain ⟨kk, hkk⟩ : ∃ kk, min es.length 100 = kk := ⟨_, rfl⟩
  have hmin := show min (es.length : Int) 100 = (kk : Int) by omega
  have hsli := fun W => slice_any la es.length lc kk (by omega) W
  have htk := fun W (h : RdE W (.slice la es.length lc) es) => h.take kk (by omega)
  obtain ⟨ts, hts⟩ : ∃ ts, es.take kk = ts := ⟨_, rfl⟩
  rw [hts] at htk
  have htl : ts.length ≤ 1000 := by rw [← hts, List.length_take]; omega
  have huw := fun (W : World) (hW : Below w.heap.size w W) => htk W (hu.below hW)
  have h25 := fun (W : World) (hW : Below w.heap.size w W) => make_any ts _ W (huw W hW) htl
  have heq := fun u' (W : World) (hW : Below w.heap.size w W) (h : RdE W u' ts) => equalE_true ts u' _ W h (huw W hW) htl
  have hback := fun b c => @Nm.make_back ts b c e
  have hents := fun b => @Nm.make_ents ts b
  have hadd := fun b v W => add_any b e v W
  obtain ⟨nm, ino, kd⟩ := e
  have hqe := fun W => ent_eql_same nm ino kd W
  have hlen : ts.length = kk := by rw [← hts, List.length_take]; omega
  have hor := Nm.make_or ts Nm.empty
  replace hor : (∃ c, Nm.make ts = (some c, 0)) ∨ ∃ x, Nm.make ts = (none, x) ∧ x ≠ 0 := hor
  obtain ⟨M, hM⟩ : ∃ M, Nm.make ts = M := ⟨_, rfl⟩
  rw [hM] at hor hback hents
  replace h25 := fun W hW => (show Calls Try.prog 25 _ W (OutRes M W) from by rw [← hM]; exact h25 W hW)
  clear hM htk hts hkk htl hlc hlen
  unfold entV at *
  dsimp only at *
  replace h25 := Lib.hid h25
  replace heq := Lib.hid heq
  replace hback := Lib.hid hback
  replace hents := Lib.hid hents
  replace hadd := Lib.hid hadd
  replace huw := Lib.hid huw
  clear hu
  have bx := Box.new w 24 #[.string (S nm), .int .i64 ino, .int .i64 kd]
  have hB := (Below.refl w.heap.size w).alloc (Nat.le_refl _) (.cells #[.string (S nm), .int .i64 ino, .int .i64 kd] 24)
  obtain ⟨W0, hW0⟩ : ∃ W0, w.alloc (.cells #[.string (S nm), .int .i64 ino, .int .i64 kd] 24) = W0 := ⟨_, rfl⟩
  rw [hW0] at bx hB
  replace hB := Lib.hid hB
  replace bx := Lib.hid bx
  go_enter Try.func4, Try.ntmps4
  go_wp2_with fail
  clear hW0 hmin hsli
  replace hqe := Lib.hid hqe
  refine (h25.out _ hB.out).mono ?_
  clear h25
  rcases hor with ⟨b, rfl⟩ | ⟨n, rfl, hn⟩
  case inr =>
    rintro e w1 ⟨u1, rfl, _, hb⟩
    have hn' : (n != 0) = true := by simpa using hn
    clear hn hback hents heq hadd
    have hB' := hB.out.trans (hb.mono hB.out.size)
    have bx' := bx.out.below hb
    clear hb hB bx 
    have hB := Lib.hid hB'
    have bx := Lib.hid bx'
    clear hB' bx' 
    go_wp2_with fail
    refine (begun_any _).mono ?_
    rintro e wb ⟨rfl, hb⟩
    have hB' := hB.out.trans (hb.mono hB.out.size)
    have bx' := bx.out.below hb
    clear hb hB bx 
    have hB := Lib.hid hB'
    have bx := Lib.hid bx'
    clear hB' bx' 
    go_wp2_with fail
    refine (begun_any _).mono ?_
    rintro e wc ⟨rfl, hb⟩
    have hB' := hB.out.trans (hb.mono hB.out.size)
    have bx' := bx.out.below hb
    clear hb hB bx 
    have hB := Lib.hid hB'
    have bx := Lib.hid bx'
    clear hB' bx' 
    go_wp2_with fail
    go_ret
    exact ⟨rfl, hB.out⟩
  rintro e w1 ⟨u1, rfl, hu1, hb⟩
  obtain ⟨g, cap, rfl, _, ho⟩ := hu1
  have r1 := Lib.hid ho.rd
  replace ho := Lib.hid ho
  have hE := hents.out b rfl
  obtain ⟨L, hL, _, hE⟩ := hE
  have hst : stateOf b = 0 := by unfold stateOf; rw [hL]; rfl
  clear hL hents ho
  have htell := Lib.hid (fun v W hr => tell_any b ts hE v W hr)
  have hstate := Lib.hid (fun v W hr => (show Calls Try.prog 15 #[v] W (NumB 0 W) from by have := state_any b v W hr; rw [hst] at this; exact this))
  clear hE hst
  have hB' := hB.out.trans (hb.mono hB.out.size)
  have bx' := bx.out.below hb
  clear hb hB bx
  have hB := Lib.hid hB'
  have bx := Lib.hid bx'
  clear hB' bx'
  go_wp2_with fail
  refine (begun_any _).mono ?_
  rintro e wb ⟨rfl, hb⟩
  have hB' := hB.out.trans (hb.mono hB.out.size)
  have bx' := bx.out.below hb
  have r1' := r1.out.below hb
  clear hb hB bx r1
  have hB := Lib.hid hB'
  have bx := Lib.hid bx'
  have r1 := Lib.hid r1'
  clear hB' bx' r1'
  go_wp2_with fail
  refine (hstate.out _ _ r1.out).mono ?_
  rintro e w2 ⟨rfl, hb⟩
  have hB' := hB.out.trans (hb.mono hB.out.size)
  have bx' := bx.out.below hb
  have r1' := r1.out.below hb
  clear hb hB bx r1
  have hB := Lib.hid hB'
  have bx := Lib.hid bx'
  have r1 := Lib.hid r1'
  clear hB' bx' r1'
  go_wp2_with fail
  refine (htell.out _ _ r1.out).mono ?_
  rintro e w3 ⟨Bl, rfl, hb, ht⟩
  replace ht := Lib.hid ht
  have hB' := hB.out.trans (hb.mono hB.out.size)
  have bx' := bx.out.below hb
  have r1' := r1.out.below hb
  clear hb hB bx r1
  have hB := Lib.hid hB'
  have bx := Lib.hid bx'
  have r1 := Lib.hid r1'
  clear hB' bx' r1'
  go_wp2_with fail
  refine ht.out.mono ?_
  rintro e w4 ⟨u4, rfl, r4, hb⟩
  clear ht
  replace r4 := Lib.hid r4
  have hB' := hB.out.trans (hb.mono hB.out.size)
  have bx' := bx.out.below hb
  have r1' := r1.out.below hb
  clear hb hB bx r1
  have hB := Lib.hid hB'
  have bx := Lib.hid bx'
  have r1 := Lib.hid r1'
  clear hB' bx' r1'
  go_wp2_with fail
  refine (heq.out _ _ hB.out r4.out).mono ?_
  clear r4
  rintro e w5 ⟨rfl, hb⟩
  have hB' := hB.out.trans (hb.mono hB.out.size)
  have bx' := bx.out.below hb
  have r1' := r1.out.below hb
  clear hb hB bx r1
  have hB := Lib.hid hB'
  have bx := Lib.hid bx'
  have r1 := Lib.hid r1'
  clear hB' bx' r1'
  have ha := hadd.out b _ w5 r1.out
  have hor := Nm.add_or b ⟨nm, ino, kd⟩
  obtain ⟨A, hA⟩ : ∃ A, Nm.add b ⟨nm, ino, kd⟩ = A := ⟨_, rfl⟩
  have hbk := fun c => hback.out b c rfl
  rw [hA] at ha hor hbk
  clear hA hadd hback htell hstate
  replace ha := Lib.hid ha
  replace hbk := Lib.hid hbk
  have d0 := bx.out.get 0 _ rfl
  have d1 := bx.out.get 1 _ rfl
  have d2 := bx.out.get 2 _ rfl
  rcases hor with ⟨c, rfl⟩ | ⟨n, rfl, hn⟩
  case inr =>
    have hn' : (n != 0) = true := by simpa using hn
    clear hn hbk
    go_wp2_with fail
    refine ha.out.mono ?_
    rintro e w6 ⟨u6, rfl, _, hb⟩
    clear ha d0 d1 d2
    have hB' := hB.out.trans (hb.mono hB.out.size)
    have bx' := bx.out.below hb
    have r1' := r1.out.below hb
    clear hb hB bx r1
    have hB := Lib.hid hB'
    have bx := Lib.hid bx'
    have r1 := Lib.hid r1'
    clear hB' bx' r1'
    go_wp2_with fail
    go_ret
    exact ⟨rfl, hB.out⟩
  obtain ⟨k1, k2, d, k3, k4, k5⟩ := hbk.out c rfl
  clear hbk
  go_wp2_with fail
  refine ha.out.mono ?_
  rintro e w6 ⟨u6, rfl, hu6, hb⟩
  obtain ⟨g2, cap2, rfl, _, ho⟩ := hu6
  have r6 := Lib.hid ho.rd
  clear ha ho r1 d0 d1 d2
  have hB' := hB.out.trans (hb.mono hB.out.size)
  have bx' := bx.out.below hb
  clear hb hB bx 
  have hB := Lib.hid hB'
  have bx := Lib.hid bx'
  clear hB' bx' 
  have d0 := bx.out.get 0 _ rfl
  have d1 := bx.out.get 1 _ rfl
  have d2 := bx.out.get 2 _ rfl
  have hf := find_any c nm _ w6 r6.out
  unfold FindRes at hf
  rw [k2] at hf
  unfold entV at hf
  dsimp only [Option.getD_some, Option.isSome_some] at hf
  replace hf := Lib.hid hf
  replace k1 := Lib.hid k1
  replace k3 := Lib.hid k3
  replace k4 := Lib.hid k4
  replace k5 := Lib.hid k5
  clear k2
  go_wp2_with fail
  refine hf.out.mono ?_
  rintro e w7 ⟨rfl, hb⟩
  clear hf d0 d1 d2
  have hB' := hB.out.trans (hb.mono hB.out.size)
  have bx' := bx.out.below hb
  have r6' := r6.out.below hb
  clear hb hB bx r6
  have hB := Lib.hid hB'
  have bx := Lib.hid bx'
  have r6 := Lib.hid r6'
  clear hB' bx' r6'
  have bx7 := Box.new w7 24 #[.string (S nm), .int .i64 ino, .int .i64 kd]
  have hb := (Below.refl w7.heap.size w7).alloc (Nat.le_refl _) (.cells #[.string (S nm), .int .i64 ino, .int .i64 kd] 24)
  obtain ⟨W8, hW8⟩ : ∃ W8, w7.alloc (.cells #[.string (S nm), .int .i64 ino, .int .i64 kd] 24) = W8 := ⟨_, rfl⟩
  rw [hW8] at bx7 hb
  replace bx7 := Lib.hid bx7
  have hB' := hB.out.trans (hb.mono hB.out.size)
  have bx' := bx.out.below hb
  have r6' := r6.out.below hb
  clear hb hB bx r6
  have hB := Lib.hid hB'
  have bx := Lib.hid bx'
  have r6 := Lib.hid r6'
  clear hB' bx' r6'
  have d0 := bx.out.get 0 _ rfl
  have d1 := bx.out.get 1 _ rfl
  have d2 := bx.out.get 2 _ rfl
  have hrm := rem_any c nm _ W8 r6.out
  rw [k3.out] at hrm
  replace hrm := Lib.hid hrm
  clear k3
  go_wp2_with fail
  clear hW8
  refine hrm.out.mono ?_
  rintro e w9 ⟨u9, rfl, hu9, hb⟩
  obtain ⟨g3, cap3, rfl, _, ho⟩ := hu9
  have bx7' := Lib.hid (bx7.out.below hb)
  have r9 := Lib.hid ho.rd
  clear hrm ho bx7 d0 d1 d2
  have hB' := hB.out.trans (hb.mono hB.out.size)
  have bx' := bx.out.below hb
  have r6' := r6.out.below hb
  clear hb hB bx r6
  have hB := Lib.hid hB'
  have bx := Lib.hid bx'
  have r6 := Lib.hid r6'
  clear hB' bx' r6'
  have bx7x := bx7'
  clear bx7'
  have hs1 := Lib.hid (fun v W hr => (show Calls Try.prog 15 #[v] W (NumB 0 W) from by have := state_any c v W hr; rw [k1.out] at this; exact this))
  have hs2 := Lib.hid (fun v W hr => (show Calls Try.prog 15 #[v] W (NumB 0 W) from by have := state_any d v W hr; rw [k4.out] at this; exact this))
  have htell := Lib.hid (fun v W hr => tell_any d ts k5.out v W hr)
  clear k1 k4 k5
  go_wp2_with fail
  refine (hs1.out _ _ r6.out).mono ?_
  rintro e wd ⟨rfl, hb⟩
  have hB' := hB.out.trans (hb.mono hB.out.size)
  have bx' := bx.out.below hb
  have r6' := r6.out.below hb
  have r9' := r9.out.below hb
  have bx7x' := bx7x.out.below hb
  clear hb hB bx r6 r9 bx7x
  have hB := Lib.hid hB'
  have bx := Lib.hid bx'
  have r6 := Lib.hid r6'
  have r9 := Lib.hid r9'
  have bx7x := Lib.hid bx7x'
  clear hB' bx' r6' r9' bx7x'
  have d0 := bx.out.get 0 _ rfl
  have d1 := bx.out.get 1 _ rfl
  have d2 := bx.out.get 2 _ rfl
  have x0 := bx7x.out.get 0 _ rfl
  have x1 := bx7x.out.get 1 _ rfl
  have x2 := bx7x.out.get 2 _ rfl
  have hqe' := hqe.out
  go_wp2_with fail
  refine (hs2.out _ _ r9.out).mono ?_
  rintro e we ⟨rfl, hb⟩
  clear d0 d1 d2 x0 x1 x2 hqe'
  have hB' := hB.out.trans (hb.mono hB.out.size)
  have bx' := bx.out.below hb
  have r6' := r6.out.below hb
  have r9' := r9.out.below hb
  have bx7x' := bx7x.out.below hb
  clear hb hB bx r6 r9 bx7x
  have hB := Lib.hid hB'
  have bx := Lib.hid bx'
  have r6 := Lib.hid r6'
  have r9 := Lib.hid r9'
  have bx7x := Lib.hid bx7x'
  clear hB' bx' r6' r9' bx7x'
  go_wp2_with fail
  refine (htell.out _ _ r9.out).mono ?_
  rintro e wf ⟨Bm, rfl, hb, ht⟩
  replace ht := Lib.hid ht
  have hB' := hB.out.trans (hb.mono hB.out.size)
  have bx' := bx.out.below hb
  have r6' := r6.out.below hb
  have r9' := r9.out.below hb
  have bx7x' := bx7x.out.below hb
  clear hb hB bx r6 r9 bx7x
  have hB := Lib.hid hB'
  have bx := Lib.hid bx'
  have r6 := Lib.hid r6'
  have r9 := Lib.hid r9'
  have bx7x := Lib.hid bx7x'
  clear hB' bx' r6' r9' bx7x'
  go_wp2_with fail
  refine ht.out.mono ?_
  rintro e wg ⟨ug, rfl, rg, hb⟩
  clear ht
  replace rg := Lib.hid rg
  have hB' := hB.out.trans (hb.mono hB.out.size)
  have bx' := bx.out.below hb
  have r6' := r6.out.below hb
  have r9' := r9.out.below hb
  have bx7x' := bx7x.out.below hb
  clear hb hB bx r6 r9 bx7x
  have hB := Lib.hid hB'
  have bx := Lib.hid bx'
  have r6 := Lib.hid r6'
  have r9 := Lib.hid r9'
  have bx7x := Lib.hid bx7x'
  clear hB' bx' r6' r9' bx7x'
  go_wp2_with fail
  refine (heq.out _ _ hB.out rg.out).mono ?_
  clear rg
  rintro e wh ⟨rfl, hb⟩
  have hB' := hB.out.trans (hb.mono hB.out.size)
  have bx' := bx.out.below hb
  have r6' := r6.out.below hb
  have r9' := r9.out.below hb
  have bx7x' := bx7x.out.below hb
  clear hb hB bx r6 r9 bx7x
  have hB := Lib.hid hB'
  have bx := Lib.hid bx'
  have r6 := Lib.hid r6'
  have r9 := Lib.hid r9'
  have bx7x := Lib.hid bx7x'
  clear hB' bx' r6' r9' bx7x'
  go_wp2_with fail
  go_ret
  exact ⟨rfl, hB.out⟩
end Go.Proofs.Ytmlgjmcenjbbeaa
