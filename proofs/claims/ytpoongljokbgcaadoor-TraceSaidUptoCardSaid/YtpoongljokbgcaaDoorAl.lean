/- The walk of slipwaylaw27.TraceSaid, an error (printed by wip/tools/said4.py). -/
import Derived.Test.YtpoongljokbgcaaDoorAk
import Derived.Test.YtpoongljokbgcaaDoorAi
import Derived.Test.YtpoongljokbgcaaDoorAc
import Derived.Test.YtpoongljokbgcaaDoorV
namespace Go.Proofs.YtpoongljokbgcaaDoor
open Go.RowKit
set_option maxRecDepth 100000 in
set_option maxHeartbeats 4000000 in
theorem said_error (k : Int) (hk : in64 k) (w : World) (hG : Gl w) (er : Int) (l : List UInt8) (kd ln sz : Int) (xs : List Ent) (hr : Res.ok ⟨er, l, kd, ln, sz, xs⟩) (da : Option Addr) (dc : Nat) (la : Option Addr) (lc : Nat)
    (hd : RdB w (.slice da l.length dc) l) (hl : RdE w (.slice la xs.length lc) xs) (h3 : l.length ≤ 3000) (h1 : xs.length ≤ 100) (hbk : Tr.bulkE xs ≤ 3900000) (h0 : er ≠ 0) :
    Calls Tryd.prog 4 #[.int .i64 k, .agg #[.int .i64 er, .slice da l.length dc, .int .i64 kd, .int .i64 ln, .int .i64 sz, .slice la xs.length lc]] w fun e w' => e = .returned (.bool true) ∧ Below w.heap.size w w' := by
  have hlen := Tr.answer_len (k) ⟨er, l, kd, ln, sz, xs⟩ hr
  have hwant : Tr.want (k) ⟨er, l, kd, ln, sz, xs⟩ = ⟨er, [], 0, 0, 0, []⟩ := by unfold Tr.want; rw [if_pos h0]
  have hback := Tr.back_any (k) ⟨er, l, kd, ln, sz, xs⟩ hr
  have hno := Tr.answer_no10 (k) ⟨er, l, kd, ln, sz, xs⟩
  have hll := Tr.list_len xs hr.2.2.2.2
  have hnm : ∀ (ys : List Ent), Tr.bulkE ys ≤ 3900000 → ∀ e ∈ ys, 3 * e.name.length ≤ 140737488355328 := by
    intro ys
    induction ys with
    | nil => intro _ e he; simp at he
    | cons y ys ih =>
      intro h e he
      unfold Tr.bulkE at h ih
      simp only [List.map_cons, List.sum_cons] at h
      rcases List.mem_cons.1 he with rfl | he
      · omega
      · exact ih (by omega) e he
  have hfit : Res.fits ⟨er, l, kd, ln, sz, xs⟩ := ⟨by show 2 * l.length + 1 ≤ _; omega, hnm xs hbk, by show xs.length ≤ _; omega, by show (Lib.join ([108, 105, 115, 116] :: xs.map Tr.ent) [32]).length ≤ _; omega⟩
  clear hnm hll
  have hlen' : (Tr.answer (k) ⟨er, l, kd, ln, sz, xs⟩).length ≤ 4000000 := by
    refine Nat.le_trans hlen ?_
    show 100 + 2 * l.length + Tr.bulkE xs ≤ _
    omega
  clear hlen
  have hA := fun W hd hl => answer_any (k) ⟨er, l, kd, ln, sz, xs⟩ (.slice da l.length dc) (.slice la xs.length lc) W hk hr hfit hd hl
  obtain ⟨s, hs⟩ : ∃ s, Tr.answer (k) ⟨er, l, kd, ln, sz, xs⟩ = s := ⟨_, rfl⟩
  rw [hs] at hback hno hlen' hA
  rw [hwant] at hback
  clear hs hwant hfit
  have hI := fun W => indexByte_S s 10 W
  rw [hno] at hI
  have hN := fun W hG => parseAns_any s W hG hlen'
  rw [hback] at hN
  clear hno hback hlen'
  replace hA := Lib.hid hA
  replace hI := Lib.hid hI
  replace hN := Lib.hid hN
  replace hG := Lib.hid hG
  replace hr := Lib.hid hr
  replace hk := Lib.hid hk
  replace hbk := Lib.hid hbk
  have b0 : (er != 0) = true := by simpa using h0
  clear h0
  have t1 : ¬ ((l.length : Int) > 3000) := by omega
  have t2 : ¬ ((xs.length : Int) > 100) := by omega
  have hB0 : Below w.heap.size w (w.alloc (.cells #[.int .i64 er, .slice da l.length dc, .int .i64 kd, .int .i64 ln, .int .i64 sz, .slice la xs.length lc] 33)) := (Below.refl _ _).alloc (Nat.le_refl _) _
  replace hB0 := Lib.hid hB0
  have hX0 := Lib.hid (Box.new w 33 #[.int .i64 er, .slice da l.length dc, .int .i64 kd, .int .i64 ln, .int .i64 sz, .slice la xs.length lc])
  obtain ⟨b, hb⟩ : ∃ b, w.heap.size = b := ⟨_, rfl⟩
  replace hb := Lib.hid hb
  have hLive := fun W hG => live_any W hG
  replace hLive := Lib.hid hLive
  go_enter Tryd.func4, Tryd.ntmps4
  go_wp2_with fail
  refine (hLive.out _ (hG.out.below hB0.out)).mono ?_
  rintro e w1 ⟨rfl, hb1⟩
  have bx1 := hX0.out.below hb1
  have bw1 := hB0.out.trans (hb1.mono hB0.out.size)
  have hd1 := hd.below bw1
  have hl1 := hl.below bw1
  have hsz1 := bw1.size
  have hlt1 := bx1.lt
  rw [hb.out] at bx1 hlt1 ⊢
  have c0 := bx1.get 0 _ rfl
  have c1 := bx1.get 1 _ rfl
  have c2 := bx1.get 2 _ rfl
  have c3 := bx1.get 3 _ rfl
  have c4 := bx1.get 4 _ rfl
  have c5 := bx1.get 5 _ rfl
  clear hb1 hd hl
  go_wp2_with fail
  refine (hA.out _ hd1 hl1).mono ?_
  rintro e w2 ⟨rfl, hb2⟩
  have bx2 := bx1.below hb2
  have bw2 := bw1.trans (hb2.mono hsz1)
  have hd2 := hd1.below hb2
  have hl2 := hl1.below hb2
  have hsz2 := bw2.size
  have hG2 := hG.out.below bw2
  clear hb2 bx1 bw1 hd1 hl1 c0 c1 c2 c3 c4 c5 hlt1
  replace hG2 := Lib.hid hG2
  go_wp2_with fail
  refine (hN.out _ hG2.out).mono ?_
  rintro e w3 ⟨pd, pl, rfl, od3, ol3, hb3⟩
  have rd3 : RdB w3 pd _ := Rd.of_own (enc := byteV) od3
  have re3 : RdE w3 pl _ := RdE.of_own ol3
  clear od3 ol3
  have bx3 := bx2.below hb3
  have bw3 := bw2.trans (hb3.mono hsz2)
  have hd3 := hd2.below hb3
  have hl3 := hl2.below hb3
  have hsz3 := bw3.size
  have hlt3 := bx3.lt
  clear hb3 bx2 bw2 hd2 hl2
  dsimp only [Option.getD_some] at rd3 re3
  have c0 := bx3.get 0 _ rfl
  have c1 := bx3.get 1 _ rfl
  have c2 := bx3.get 2 _ rfl
  have c3 := bx3.get 3 _ rfl
  have c4 := bx3.get 4 _ rfl
  have c5 := bx3.get 5 _ rfl
  obtain ⟨pa, pc, rfl⟩ := rd3.len
  obtain ⟨qa, qc, rfl⟩ := re3.len
  replace rd3 := Lib.hid rd3
  replace re3 := Lib.hid re3
  replace hd3 := Lib.hid hd3
  replace hl3 := Lib.hid hl3
  replace bw3 := Lib.hid bw3
  have hbz := Lib.hid (show w.heap.size ≤ w3.heap.size from hsz3)
  go_wp2_with fail
  refine (hI.out _).mono ?_
  rintro e w4 ⟨rfl, rfl⟩
  go_wp2_with fail
  refine (sameResult_true ⟨er, [], 0, 0, 0, []⟩ _ _ _ _ _ (by simp) ?_ ?_ (Rd.nil _ _) (RdE.nil _)).mono ?_
  · exact rd3.out.below (((Below.refl _ _).alloc (Nat.le_refl _) _).alloc (by simp) _)
  · exact re3.out.below (((Below.refl _ _).alloc (Nat.le_refl _) _).alloc (by simp) _)
  rintro e w5 ⟨rfl, hb5⟩
  go_wp2_with fail
  go_ret
  exact ⟨rfl, ((bw3.out.alloc hsz3 _).alloc (by simp; omega) _).trans (hb5.mono (by simp; omega))⟩
end Go.Proofs.YtpoongljokbgcaaDoor
