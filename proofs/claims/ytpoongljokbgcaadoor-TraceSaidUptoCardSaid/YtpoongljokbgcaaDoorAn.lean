/- The walk of slipwaylaw27.TraceSaid, a list (printed by wip/tools/said4.py). -/
import Derived.Test.YtpoongljokbgcaaDoorAl
import Derived.Test.YtpoongljokbgcaaDoorAh
namespace Go.Proofs.YtpoongljokbgcaaDoor
open Go.RowKit
def plainE (xs : List Ent) : List Ent := xs.map fun e => ⟨e.name, 0, e.kind⟩
set_option maxRecDepth 100000 in
set_option maxHeartbeats 4000000 in
theorem said_list (w : World) (hG : Gl w) (l : List UInt8) (kd ln sz : Int) (xs : List Ent) (hr : Res.ok ⟨0, l, kd, ln, sz, xs⟩) (da : Option Addr) (dc : Nat) (la : Option Addr) (lc : Nat)
    (hd : RdB w (.slice da l.length dc) l) (hl : RdE w (.slice la xs.length lc) xs) (h3 : l.length ≤ 3000) (h1 : xs.length ≤ 100) (hbk : Tr.bulkE xs ≤ 3900000) :
    Calls Tryd.prog 4 #[.int .i64 11, .agg #[.int .i64 0, .slice da l.length dc, .int .i64 kd, .int .i64 ln, .int .i64 sz, .slice la xs.length lc]] w fun e w' => e = .returned (.bool true) ∧ Below w.heap.size w w' := by
  have hlen := Tr.answer_len (11) ⟨0, l, kd, ln, sz, xs⟩ hr
  have hwant : Tr.want (11) ⟨0, l, kd, ln, sz, xs⟩ = ⟨0, [], 0, 0, 0, plainE xs⟩ := by unfold Tr.want; rw [if_neg (fun h => h rfl), if_neg (by decide), if_neg (by decide), if_pos rfl]; rfl
  have hback := Tr.back_any (11) ⟨0, l, kd, ln, sz, xs⟩ hr
  have hno := Tr.answer_no10 (11) ⟨0, l, kd, ln, sz, xs⟩
  have hll := Tr.list_len xs hr.2.2.2.2
  have hnm : ∀ (ys : List Ent), Tr.bulkE ys ≤ 3900000 → ∀ e ∈ ys, 3 * e.name.length ≤ 140737488355328 := by
    intro ys
    induction ys with
    | nil => intro _ e he; simp at he
    | cons y ys ih =>
      intro h e he
      unfold Tr.bulkE at h ih
      simp only [List.map_cons, List.sum_cons] at h
      rcases List.mem_cons.1 he with rfl | he
      · omega
      · exact ih (by omega) e he
  have hfit : Res.fits ⟨0, l, kd, ln, sz, xs⟩ := ⟨by show 2 * l.length + 1 ≤ _; omega, hnm xs hbk, by show xs.length ≤ _; omega, by show (Lib.join ([108, 105, 115, 116] :: xs.map Tr.ent) [32]).length ≤ _; omega⟩
  clear hnm hll
  have hlen' : (Tr.answer (11) ⟨0, l, kd, ln, sz, xs⟩).length ≤ 4000000 := by
    refine Nat.le_trans hlen ?_
    show 100 + 2 * l.length + Tr.bulkE xs ≤ _
    omega
  clear hlen
  have hA := fun W hd hl => answer_any (11) ⟨0, l, kd, ln, sz, xs⟩ (.slice da l.length dc) (.slice la xs.length lc) W ⟨by decide, by decide⟩ hr hfit hd hl
  obtain ⟨s, hs⟩ : ∃ s, Tr.answer (11) ⟨0, l, kd, ln, sz, xs⟩ = s := ⟨_, rfl⟩
  rw [hs] at hback hno hlen' hA
  rw [hwant] at hback
  clear hs hwant hfit
  have hI := fun W => indexByte_S s 10 W
  rw [hno] at hI
  have hN := fun W hG => parseAns_any s W hG hlen'
  rw [hback] at hN
  clear hno hback hlen'
  replace hA := Lib.hid hA
  replace hI := Lib.hid hI
  replace hN := Lib.hid hN
  replace hG := Lib.hid hG
  replace hr := Lib.hid hr
  replace hbk := Lib.hid hbk
  have t1 : ¬ ((l.length : Int) > 3000) := by omega
  have t2 : ¬ ((xs.length : Int) > 100) := by omega
  have hB0 : Below w.heap.size w (w.alloc (.cells #[.int .i64 0, .slice da l.length dc, .int .i64 kd, .int .i64 ln, .int .i64 sz, .slice la xs.length lc] 33)) := (Below.refl _ _).alloc (Nat.le_refl _) _
  replace hB0 := Lib.hid hB0
  have hX0 := Lib.hid (Box.new w 33 #[.int .i64 0, .slice da l.length dc, .int .i64 kd, .int .i64 ln, .int .i64 sz, .slice la xs.length lc])
  obtain ⟨b, hb⟩ : ∃ b, w.heap.size = b := ⟨_, rfl⟩
  replace hb := Lib.hid hb
  have hLive := fun W hG => live_any W hG
  replace hLive := Lib.hid hLive
  go_enter Tryd.func4, Tryd.ntmps4
  go_wp2_with fail
  refine (hLive.out _ (hG.out.below hB0.out)).mono ?_
  rintro e w1 ⟨rfl, hb1⟩
  have bx1 := hX0.out.below hb1
  have bw1 := hB0.out.trans (hb1.mono hB0.out.size)
  have hd1 := hd.below bw1
  have hl1 := hl.below bw1
  have hsz1 := bw1.size
  have hlt1 := bx1.lt
  rw [hb.out] at bx1 hlt1 ⊢
  have c0 := bx1.get 0 _ rfl
  have c1 := bx1.get 1 _ rfl
  have c2 := bx1.get 2 _ rfl
  have c3 := bx1.get 3 _ rfl
  have c4 := bx1.get 4 _ rfl
  have c5 := bx1.get 5 _ rfl
  clear hb1 hd hl
  go_wp2_with fail
  refine (hA.out _ hd1 hl1).mono ?_
  rintro e w2 ⟨rfl, hb2⟩
  have bx2 := bx1.below hb2
  have bw2 := bw1.trans (hb2.mono hsz1)
  have hd2 := hd1.below hb2
  have hl2 := hl1.below hb2
  have hsz2 := bw2.size
  have hG2 := hG.out.below bw2
  clear hb2 bx1 bw1 hd1 hl1 c0 c1 c2 c3 c4 c5 hlt1
  replace hG2 := Lib.hid hG2
  go_wp2_with fail
  refine (hN.out _ hG2.out).mono ?_
  rintro e w3 ⟨pd, pl, rfl, od3, ol3, hb3⟩
  have rd3 : RdB w3 pd _ := Rd.of_own (enc := byteV) od3
  have re3 : RdE w3 pl _ := RdE.of_own ol3
  clear od3 ol3
  have bx3 := bx2.below hb3
  have bw3 := bw2.trans (hb3.mono hsz2)
  have hd3 := hd2.below hb3
  have hl3 := hl2.below hb3
  have hsz3 := bw3.size
  have hlt3 := bx3.lt
  clear hb3 bx2 bw2 hd2 hl2
  dsimp only [Option.getD_some] at rd3 re3
  have c0 := bx3.get 0 _ rfl
  have c1 := bx3.get 1 _ rfl
  have c2 := bx3.get 2 _ rfl
  have c3 := bx3.get 3 _ rfl
  have c4 := bx3.get 4 _ rfl
  have c5 := bx3.get 5 _ rfl
  obtain ⟨pa, pc, rfl⟩ := rd3.len
  obtain ⟨qa, qc, rfl⟩ := re3.len
  replace rd3 := Lib.hid rd3
  replace re3 := Lib.hid re3
  replace hd3 := Lib.hid hd3
  replace hl3 := Lib.hid hl3
  replace bw3 := Lib.hid bw3
  have hbz := Lib.hid (show w.heap.size ≤ w3.heap.size from hsz3)
  go_wp2_with fail
  refine (hI.out _).mono ?_
  rintro e w4 ⟨rfl, rfl⟩
  obtain ⟨i0, hi0, hz0, hz1, hz2⟩ := info_parts infoEnt
  have hple := Lib.hid (show (plainE xs).length = xs.length by unfold plainE; rw [List.length_map])
  go_wp2_with fail
  have hW0 : ∃ W0, ((w3.alloc (.cells #[.int .i64 0, .slice pa 0 pc, .int .i64 0, .int .i64 0, .int .i64 0, .slice qa (plainE xs).length qc] 33)).alloc (.cells #[.int .i64 0, .slice none 0 0, .int .i64 0, .int .i64 0, .int .i64 0, .slice none 0 0] 33)) = W0 ∧ Box W0 (w3.heap.size + 1) 33 #[.int .i64 0, .slice none 0 0, .int .i64 0, .int .i64 0, .int .i64 0, .slice none 0 0] ∧ Box W0 w3.heap.size 33 #[.int .i64 0, .slice pa 0 pc, .int .i64 0, .int .i64 0, .int .i64 0, .slice qa (plainE xs).length qc] ∧ Below w3.heap.size w3 W0 :=
    ⟨_, rfl, by simpa using Box.new (w3.alloc (.cells #[.int .i64 0, .slice pa 0 pc, .int .i64 0, .int .i64 0, .int .i64 0, .slice qa (plainE xs).length qc] 33)) 33 _, (Box.new w3 33 _).alloc _, ((Below.refl _ _).alloc (Nat.le_refl _) _).alloc (by simp) _⟩
  obtain ⟨W0, hW0e, hb8, hb6, hW0⟩ := hW0
  rw [hW0e]
  clear hW0e
  go_loopw [63] (fun k wr => ∃ (i : Nat) (va : Option Addr) (vc : Nat), i ≤ xs.length ∧ k = .int .i64 i ∧ Box wr (w3.heap.size + 1) 33 #[.int .i64 0, .slice none 0 0, .int .i64 0, .int .i64 0, .int .i64 0, .slice va i vc] ∧ wr.ownsRow (w3.heap.size + 1 + 1) 39 3 (.slice va i vc) i (cellsE (plainE (xs.take i))) ∧ Box wr w3.heap.size 33 #[.int .i64 0, .slice pa 0 pc, .int .i64 0, .int .i64 0, .int .i64 0, .slice qa (plainE xs).length qc] ∧ Below w3.heap.size w3 wr)
    (fun k _ => xs.length - (intOf k).toNat)
  case atStart => exact ⟨0, none, 0, by omega, rfl, hb8, World.ownsRow_nil _ _ _ _, hb6, hW0⟩
  case round =>
    clear hb8 hb6 hW0 c0 c1 c2 c3 c4 c5
    obtain ⟨i, va, vc, hi, rfl, b8, ol, b6, hW⟩ := hrel
    have hz := hW.size
    have hl8 := b8.lt
    by_cases hlt : i < xs.length
    · have hne : xs ≠ [] := by intro h; rw [h] at hlt; simp at hlt
      obtain ⟨ab, ao, c, hv, hcap, hab, hcell⟩ := hl3.out.at hne
      cases hv
      obtain ⟨d0, d1, d2⟩ := hcell i hlt
      rw [← hW.cell (p := ⟨ab, ao + i * 3, none⟩) hab] at d0
      rw [← hW.cell (p := ⟨ab, ao + i * 3 + 1, none⟩) hab] at d1
      rw [← hW.cell (p := ⟨ab, ao + i * 3 + 2, none⟩) hab] at d2
      clear hcell hne
      obtain ⟨x, hx⟩ : ∃ x, xs[i] = x := ⟨_, rfl⟩
      rw [hx] at d0 d1 d2
      have hts := Lib.hid (show xs.take (i + 1) = xs.take i ++ [x] by rw [← hx]; simp)
      clear hx
      obtain ⟨xn, xi, xk⟩ := x
      dsimp only at d0 d1 d2
      have hn9 : ∀ o1 o2 : Obj, ((wr.alloc o1).alloc o2).heap[wr.heap.size + 1]? = some o2 := fun o1 o2 => by
        have := heap_alloc_new (wr.alloc o1) o2; rwa [World.size_alloc] at this
      replace hn9 := Lib.hid hn9
      have hI0 : (0 : Int) ≤ (i : Int) := by omega
      have hI1 : (i : Int) < (xs.length : Int) := by omega
      have b8' := b8.alloc (.cells #[.string (S xn), .int .i64 xi, .int .i64 xk] 39)
      have cs5 := b8'.get 5 _ rfl
      have hne : ∀ b, b < w3.heap.size + 1 + 1 → some b ≠ (Value.slice va i vc).ownBlock := fun b hb h => by have := (ol.lt _ h.symm).1; omega
      replace hne := Lib.hid hne
      go_wp2_with (at_builtin; refine wpList_append_lies _ rfl _ _ 31 rfl (w3.heap.size + 1 + 1) 39 i0 (.agg #[.string ⟨#[]⟩, .int .i64 0, .int .i64 0]) 3 32 Tryd.underlying31 hi0 hz0 hz1 hz2 rfl (by decide) (.slice va i vc) i (cellsE (plainE (xs.take i))) rfl ((ol.alloc _).alloc _) ⟨wr.heap.size + 1, 0, none⟩ 1 1 [.string (S xn), .int .i64 0, .int .i64 xk] rfl rfl (World.news_of_block (hn9.out (.cells #[.string (S xn), .int .i64 xi, .int .i64 xk] 39) (.cells #[.string (S xn), .int .i64 0, .int .i64 xk] 39))) (by simp [Value.oneCell']) (by omega) (by unfold maxLen; omega) (by omega) (by rw [World.size_alloc, World.size_alloc]; omega) _ rfl ?_; intro vg vd w5 hown5 hgrow _ _; (have bx5 := (b8'.alloc (.cells #[.string (S xn), .int .i64 0, .int .i64 xk] 39)).grown hgrow (hne.out _ (by omega))); (have b65 := ((b6.alloc (.cells #[.string (S xn), .int .i64 xi, .int .i64 xk] 39)).alloc (.cells #[.string (S xn), .int .i64 0, .int .i64 xk] 39)).grown hgrow (hne.out _ (by omega))); (have bw5 : Below w3.heap.size w3 w5 := ((hW.alloc (by omega) _).alloc (by rw [World.size_alloc]; omega) _).grown hgrow (by rw [World.size_alloc, World.size_alloc]; omega) (fun k hk => by have := (ol.lt k hk).1; omega)); (have cs6 := bx5.get 5 _ rfl); (have fs6 := bx5.frozen 5))
      go_roundw
      case rel =>
        refine ⟨i + 1, some ⟨vg, 0, none⟩, vd, by omega, by go_num, by simpa using bx5.set 5 (.slice (some ⟨vg, 0, none⟩) (i + 1) vd), ?_, b65.setFar _ _ (by show w3.heap.size + 1 ≠ w3.heap.size; omega), bw5.setCell (p := ⟨w3.heap.size + 1, 5, none⟩) (by show w3.heap.size ≤ w3.heap.size + 1; omega) _⟩
        refine own_setFar (a := ⟨w3.heap.size + 1, 5, none⟩) ?_ (by show w3.heap.size + 1 < w3.heap.size + 1 + 1; omega) _
        have e9 : cellsE (plainE (xs.take (i + 1))) = cellsE (plainE (xs.take i)) ++ [.string (S xn), .int .i64 0, .int .i64 xk] := by rw [hts.out]; unfold plainE; rw [List.map_append, List.map_cons, List.map_nil, cellsE_snoc]
        rw [e9]
        exact hown5
      case measure => simp [intOf]; omega
    · have hi' : i = xs.length := by omega
      subst hi'
      rw [List.take_length] at ol
      have ol' : wr.ownsRow (w3.heap.size + 1 + 1) 39 3 (.slice va xs.length vc) (plainE xs).length (cellsE (plainE xs)) := by rw [hple.out]; exact ol
      have re8 := Lib.hid (RdE.of_own ol')
      have e60 := b6.get 0 _ rfl
      have e61 := b6.get 1 _ rfl
      have e62 := b6.get 2 _ rfl
      have e63 := b6.get 3 _ rfl
      have e64 := b6.get 4 _ rfl
      have e65 := b6.get 5 _ rfl
      have e80 := b8.get 0 _ rfl
      have e81 := b8.get 1 _ rfl
      have e82 := b8.get 2 _ rfl
      have e83 := b8.get 3 _ rfl
      have e84 := b8.get 4 _ rfl
      have e85 := b8.get 5 _ rfl
      go_wp2_with fail
      refine (sameResult_true ⟨0, [], 0, 0, 0, plainE xs⟩ _ _ _ _ _ (by show (plainE xs).length ≤ _; rw [hple.out]; omega) ?_ ?_ (Rd.nil _ _) re8.out).mono ?_
      · exact rd3.out.below hW
      · exact re3.out.below hW
      rintro e w5 ⟨rfl, hb5⟩
      go_wp2_with fail
      go_ret
      exact ⟨rfl, (bw3.out.trans (hW.mono hbz.out)).trans (hb5.mono (by omega))⟩
end Go.Proofs.YtpoongljokbgcaaDoor
