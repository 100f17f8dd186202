/- DirentChanges returns true. -/
import Derived.Test.YtmlgjmcenjbbeaaAo
import Derived.Test.YtmlgjmcenjbbeaaAc
namespace Go.Proofs.Ytmlgjmcenjbbeaa
open Go.RowKit
set_option maxRecDepth 100000 in
set_option maxHeartbeats 8000000 in
theorem changes_any (b : List UInt8) (v : Value) (e : Ent) (es : List Ent) (u : Value) (w : World) (hr : RdB w v b) (hb : b.length ≤ 1048576) (hu : RdE w u es) : Calls Try.prog 5 #[v, entV e, u] w (BoolB true w) := by
  obtain ⟨la, lc, rfl⟩ := hu.len
  have hlc : es.length ≤ lc := by obtain ⟨_, _, h1, h2, _⟩ := hu; cases h1; exact h2
  obtain ⟨kk, hkk⟩ : ∃ kk, min es.length 100 = kk := ⟨_, rfl⟩
  have hmin := Lib.hid (show min (es.length : Int) 100 = (kk : Int) by omega)
  have hsli := Lib.hid (fun W => slice_any la es.length lc kk (by omega) W)
  have htk := fun W (h : RdE W (.slice la es.length lc) es) => h.take kk (by omega)
  obtain ⟨ts, hts⟩ : ∃ ts, es.take kk = ts := ⟨_, rfl⟩
  rw [hts] at htk
  have htl : ts.length ≤ 1000 := by rw [← hts, List.length_take]; omega
  have hrw := fun (W : World) (hW : Below w.heap.size w W) => hr.below hW
  have huw := fun (W : World) (hW : Below w.heap.size w W) => htk W (hu.below hW)
  obtain ⟨nm, ino, kd⟩ := e
  have h28 := fun (W : World) (hW : Below w.heap.size w W) => clone_rd b v W (hr.below hW) hb
  have h26 := fun (W : World) (hW : Below w.heap.size w W) => (add_any b ⟨nm, ino, kd⟩ v W (hrw W hW)).mono fun e w' h => outRes_rd h
  have h29 := fun (W : World) (hW : Below w.heap.size w W) => (addr_any b ⟨nm, ino, kd⟩ v W (hrw W hW)).mono fun e w' h => outRes_rd h
  have h27 := fun (W : World) (hW : Below w.heap.size w W) => (rem_any b nm v W (hrw W hW)).mono fun e w' h => outRes_rd h
  have h30 := fun (W : World) (hW : Below w.heap.size w W) => (remr_any b nm v W (hrw W hW)).mono fun e w' h => outRes_rd h
  have h31 := fun (W : World) (hW : Below w.heap.size w W) => (turn_any b ⟨nm, ino, kd⟩ v W (hrw W hW)).mono fun e w' h => outRes_rd h
  have h32 := fun (W : World) (hW : Below w.heap.size w W) => (turnr_any b ⟨nm, ino, kd⟩ v W (hrw W hW)).mono fun e w' h => outRes_rd h
  have h25 := fun (W : World) (hW : Below w.heap.size w W) => (make_any ts _ W (huw W hW) htl).mono fun e w' h => outRes_rd h
  have h33 := fun (W : World) (hW : Below w.heap.size w W) => (maker_any ts _ W (huw W hW) htl).mono fun e w' h => outRes_rd h
  obtain ⟨Xa, hXa⟩ : ∃ X, (Nm.add b ⟨nm, ino, kd⟩).1.getD [] = X := ⟨_, rfl⟩
  obtain ⟨qa, hna⟩ : ∃ n, (Nm.add b ⟨nm, ino, kd⟩).2 = n := ⟨_, rfl⟩
  rw [hXa, hna] at h26 h29
  clear hXa hna
  obtain ⟨Xr, hXr⟩ : ∃ X, (Nm.rem b nm).1.getD [] = X := ⟨_, rfl⟩
  obtain ⟨qr, hnr⟩ : ∃ n, (Nm.rem b nm).2 = n := ⟨_, rfl⟩
  rw [hXr, hnr] at h27 h30
  clear hXr hnr
  obtain ⟨Xt, hXt⟩ : ∃ X, (Nm.turn b ⟨nm, ino, kd⟩).1.getD [] = X := ⟨_, rfl⟩
  obtain ⟨qt, hnt⟩ : ∃ n, (Nm.turn b ⟨nm, ino, kd⟩).2 = n := ⟨_, rfl⟩
  rw [hXt, hnt] at h31 h32
  clear hXt hnt
  obtain ⟨Xm, hXm⟩ : ∃ X, (Nm.make ts).1.getD [] = X := ⟨_, rfl⟩
  obtain ⟨qm, hnm⟩ : ∃ n, (Nm.make ts).2 = n := ⟨_, rfl⟩
  rw [hXm, hnm] at h25 h33
  clear hXm hnm
  have hlen : ts.length = kk := by rw [← hts, List.length_take]; omega
  rw [hlen] at *
  unfold entV at *
  dsimp only at *
  replace h28 := Lib.hid h28
  replace h26 := Lib.hid h26
  replace h29 := Lib.hid h29
  replace h27 := Lib.hid h27
  replace h30 := Lib.hid h30
  replace h31 := Lib.hid h31
  replace h32 := Lib.hid h32
  replace h25 := Lib.hid h25
  replace h33 := Lib.hid h33
  replace hrw := Lib.hid hrw
  clear hr hu huw htk hts hkk htl hlc hlen
  have bx := Box.new w 24 #[.string (S nm), .int .i64 ino, .int .i64 kd]
  have hB := (Below.refl w.heap.size w).alloc (Nat.le_refl _) (.cells #[.string (S nm), .int .i64 ino, .int .i64 kd] 24)
  obtain ⟨W0, hW0⟩ : ∃ W0, w.alloc (.cells #[.string (S nm), .int .i64 ino, .int .i64 kd] 24) = W0 := ⟨_, rfl⟩
  rw [hW0] at bx hB
  replace hB := Lib.hid hB
  have d0 := bx.get 0 _ rfl
  have d1 := bx.get 1 _ rfl
  have d2 := bx.get 2 _ rfl
  replace bx := Lib.hid bx
  go_enter Try.func5, Try.ntmps5
  go_wp2_with fail
  clear hW0
  refine (h28.out _ hB.out).mono ?_
  rintro e w1 ⟨u1, rfl, r1, hb⟩
  have hB' := hB.out.trans (hb.mono hB.out.size)
  have bx' := bx.out.below hb
  clear hb hB bx d0 d1 d2 
  have hB := Lib.hid hB'
  have d0 := bx'.get 0 _ rfl
  have d1 := bx'.get 1 _ rfl
  have d2 := bx'.get 2 _ rfl
  have bx := Lib.hid bx'
  clear hB' bx' 
  replace r1 := Lib.hid r1
  go_wp2_with fail
  refine (h26.out _ hB.out).mono ?_
  rintro e w2 ⟨u2, rfl, r2, hb⟩
  have hB' := hB.out.trans (hb.mono hB.out.size)
  have bx' := bx.out.below hb
  have r1' := r1.out.below hb
  clear hb hB bx d0 d1 d2 r1
  have hB := Lib.hid hB'
  have d0 := bx'.get 0 _ rfl
  have d1 := bx'.get 1 _ rfl
  have d2 := bx'.get 2 _ rfl
  have bx := Lib.hid bx'
  have r1 := Lib.hid r1'
  clear hB' bx' r1'
  replace r2 := Lib.hid r2
  go_wp2_with fail
  refine (h29.out _ hB.out).mono ?_
  rintro e w3 ⟨u3, rfl, r3, hb⟩
  have hB' := hB.out.trans (hb.mono hB.out.size)
  have bx' := bx.out.below hb
  have r1' := r1.out.below hb
  have r2' := r2.out.below hb
  clear hb hB bx d0 d1 d2 r1 r2
  have hB := Lib.hid hB'
  have d0 := bx'.get 0 _ rfl
  have d1 := bx'.get 1 _ rfl
  have d2 := bx'.get 2 _ rfl
  have bx := Lib.hid bx'
  have r1 := Lib.hid r1'
  have r2 := Lib.hid r2'
  clear hB' bx' r1' r2'
  replace r3 := Lib.hid r3
  go_wp2_with fail
  refine (begun_any _).mono ?_
  rintro e wb ⟨rfl, hb⟩
  have hB' := hB.out.trans (hb.mono hB.out.size)
  have bx' := bx.out.below hb
  have r1' := r1.out.below hb
  have r2' := r2.out.below hb
  have r3' := r3.out.below hb
  clear hb hB bx d0 d1 d2 r1 r2 r3
  have hB := Lib.hid hB'
  have d0 := bx'.get 0 _ rfl
  have d1 := bx'.get 1 _ rfl
  have d2 := bx'.get 2 _ rfl
  have bx := Lib.hid bx'
  have r1 := Lib.hid r1'
  have r2 := Lib.hid r2'
  have r3 := Lib.hid r3'
  clear hB' bx' r1' r2' r3'
  go_wp2_with fail
  refine (equalB_true Xa _ _ _ r2.out r3.out).mono ?_
  rintro e w' ⟨rfl, hw⟩
  obtain rfl := hw.symm
  clear r2
  clear r3
  go_wp2_with fail
  refine (h27.out _ hB.out).mono ?_
  rintro e w4 ⟨u4, rfl, r4, hb⟩
  have hB' := hB.out.trans (hb.mono hB.out.size)
  have bx' := bx.out.below hb
  have r1' := r1.out.below hb
  clear hb hB bx d0 d1 d2 r1
  have hB := Lib.hid hB'
  have d0 := bx'.get 0 _ rfl
  have d1 := bx'.get 1 _ rfl
  have d2 := bx'.get 2 _ rfl
  have bx := Lib.hid bx'
  have r1 := Lib.hid r1'
  clear hB' bx' r1'
  replace r4 := Lib.hid r4
  go_wp2_with fail
  refine (h30.out _ hB.out).mono ?_
  rintro e w5 ⟨u5, rfl, r5, hb⟩
  have hB' := hB.out.trans (hb.mono hB.out.size)
  have bx' := bx.out.below hb
  have r1' := r1.out.below hb
  have r4' := r4.out.below hb
  clear hb hB bx d0 d1 d2 r1 r4
  have hB := Lib.hid hB'
  have d0 := bx'.get 0 _ rfl
  have d1 := bx'.get 1 _ rfl
  have d2 := bx'.get 2 _ rfl
  have bx := Lib.hid bx'
  have r1 := Lib.hid r1'
  have r4 := Lib.hid r4'
  clear hB' bx' r1' r4'
  replace r5 := Lib.hid r5
  go_wp2_with fail
  refine (equalB_true Xr _ _ _ r4.out r5.out).mono ?_
  rintro e w' ⟨rfl, hw⟩
  obtain rfl := hw.symm
  clear r4
  clear r5
  go_wp2_with fail
  refine (h31.out _ hB.out).mono ?_
  rintro e w6 ⟨u6, rfl, r6, hb⟩
  have hB' := hB.out.trans (hb.mono hB.out.size)
  have bx' := bx.out.below hb
  have r1' := r1.out.below hb
  clear hb hB bx d0 d1 d2 r1
  have hB := Lib.hid hB'
  have d0 := bx'.get 0 _ rfl
  have d1 := bx'.get 1 _ rfl
  have d2 := bx'.get 2 _ rfl
  have bx := Lib.hid bx'
  have r1 := Lib.hid r1'
  clear hB' bx' r1'
  replace r6 := Lib.hid r6
  go_wp2_with fail
  refine (h32.out _ hB.out).mono ?_
  rintro e w7 ⟨u7, rfl, r7, hb⟩
  have hB' := hB.out.trans (hb.mono hB.out.size)
  have bx' := bx.out.below hb
  have r1' := r1.out.below hb
  have r6' := r6.out.below hb
  clear hb hB bx d0 d1 d2 r1 r6
  have hB := Lib.hid hB'
  have d0 := bx'.get 0 _ rfl
  have d1 := bx'.get 1 _ rfl
  have d2 := bx'.get 2 _ rfl
  have bx := Lib.hid bx'
  have r1 := Lib.hid r1'
  have r6 := Lib.hid r6'
  clear hB' bx' r1' r6'
  replace r7 := Lib.hid r7
  go_wp2_with fail
  refine (equalB_true Xt _ _ _ r6.out r7.out).mono ?_
  rintro e w' ⟨rfl, hw⟩
  obtain rfl := hw.symm
  clear r6
  clear r7
  have hmin1 := hmin.out
  have hsli1 := hsli.out
  go_wp2_with fail
  clear hmin1 hsli1
  refine (h25.out _ hB.out).mono ?_
  rintro e w8 ⟨u8, rfl, r8, hb⟩
  have hB' := hB.out.trans (hb.mono hB.out.size)
  have bx' := bx.out.below hb
  have r1' := r1.out.below hb
  clear hb hB bx d0 d1 d2 r1
  have hB := Lib.hid hB'
  have d0 := bx'.get 0 _ rfl
  have d1 := bx'.get 1 _ rfl
  have d2 := bx'.get 2 _ rfl
  have bx := Lib.hid bx'
  have r1 := Lib.hid r1'
  clear hB' bx' r1'
  replace r8 := Lib.hid r8
  go_wp2_with fail
  refine (h33.out _ hB.out).mono ?_
  rintro e w9 ⟨u9, rfl, r9, hb⟩
  have hB' := hB.out.trans (hb.mono hB.out.size)
  have bx' := bx.out.below hb
  have r1' := r1.out.below hb
  have r8' := r8.out.below hb
  clear hb hB bx d0 d1 d2 r1 r8
  have hB := Lib.hid hB'
  have d0 := bx'.get 0 _ rfl
  have d1 := bx'.get 1 _ rfl
  have d2 := bx'.get 2 _ rfl
  have bx := Lib.hid bx'
  have r1 := Lib.hid r1'
  have r8 := Lib.hid r8'
  clear hB' bx' r1' r8'
  replace r9 := Lib.hid r9
  go_wp2_with fail
  refine (equalB_true Xm _ _ _ r8.out r9.out).mono ?_
  rintro e w' ⟨rfl, hw⟩
  obtain rfl := hw.symm
  go_wp2_with fail
  refine (equalB_true b _ _ _ (hrw.out _ hB.out) r1.out).mono ?_
  rintro e w' ⟨rfl, hw⟩
  obtain rfl := hw.symm
  go_wp2_with fail
  go_ret
  exact ⟨rfl, hB.out⟩
end Go.Proofs.Ytmlgjmcenjbbeaa
