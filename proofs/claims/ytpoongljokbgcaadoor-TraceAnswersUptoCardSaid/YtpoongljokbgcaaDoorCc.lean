/- The reference's reading of an entry (slipwayref27.entry). -/
import Derived.Test.YtpoongljokbgcaaDoorBf
import Derived.Test.YtpoongljokbgcaaDoorCa
import Derived.Test.YtpoongljokbgcaaDoorU
import Derived.Test.YtpoongljokbgcaaDoorG
namespace Go.Proofs.YtpoongljokbgcaaDoor
open Go.RowKit
theorem put3 {W : World} {b : Nat} {t : TypeId} {a0 a1 a2 : Value} (h : Box W b t #[a0, a1, a2]) (v0 v1 v2 : Value) {B : Nat} {u : World} (hB : Below B u W) (hle : B ≤ b) :
    Box (((W.setCell ⟨b, 0, none⟩ v0).setCell ⟨b, 1, none⟩ v1).setCell ⟨b, 2, none⟩ v2) b t #[v0, v1, v2] ∧
    Below B u (((W.setCell ⟨b, 0, none⟩ v0).setCell ⟨b, 1, none⟩ v1).setCell ⟨b, 2, none⟩ v2) :=
  ⟨by simpa using ((h.set 0 v0).set 1 v1).set 2 v2,
   ((hB.setCell (p := ⟨b, 0, none⟩) hle _).setCell (p := ⟨b, 1, none⟩) hle _).setCell (p := ⟨b, 2, none⟩) hle _⟩
theorem res69 {W : World} {b : Nat} {v0 v1 v2 : Value} (h : Box W b 39 #[v0, v1, v2]) {tmps : Array Value} {c : Bool} (h2 : tmps.getD 2 undef = .pointer (some ⟨b, 0, none⟩)) (h3 : tmps.getD 3 undef = .bool c) :
    (results Tryd.f69 tmps).run Tryd.prog W = .ok (.tuple #[.agg #[v0, v1, v2], .bool c]) W := by
  have d0 := h.get 0 _ rfl
  have d1 := h.get 1 _ rfl
  have d2 := h.get 2 _ rfl
  simp at h2 h3
  simp [results, Tryd.results69, go_sem, h2, h3, d0, d1, d2]
/-- A read entry. -/
def EntRes (r : Ent × Bool) (w : World) (e : Ending) (w' : World) : Prop :=
  e = .returned (.tuple #[.agg #[.string (S r.1.name), .int .i64 r.1.ino, .int .i64 r.1.kind], .bool r.2]) ∧ Below w.heap.size w w'
theorem entRes_mk {r : Ent × Bool} {n : List UInt8} {k : Int} {c : Bool} {w : World} {e : Ending} {w' : World} (h : r = (⟨n, 0, k⟩, c)) (he : e = .returned (.tuple #[.agg #[.string (S n), .int .i64 0, .int .i64 k], .bool c])) (hb : Below w.heap.size w w') : EntRes r w e w' := by
  subst h; exact ⟨he, hb⟩
theorem unq_pair (l : List UInt8) (w : World) (hl : 3 * l.length ≤ 140737488355328) :
    Calls Tryd.prog 11 #[.string (S l)] w (fun e w' => e = .returned (.tuple #[.string (S ((Tr.unq l).getD [])), .int .i64 (if (Tr.unq l).isSome then 0 else 270)]) ∧ Below w.heap.size w w') := by
  refine (unquoter_any l w hl).mono ?_
  rintro e w' ⟨rfl, hb⟩
  refine ⟨?_, hb⟩
  cases Tr.unq l <;> rfl
theorem Tr.entR_no (s : List UInt8) (h : (58 : UInt8) ∉ s) : Tr.entR s = (⟨[], 0, 0⟩, false) := by unfold Tr.entR; rw [if_neg h]
theorem Tr.entR_at (s : List UInt8) (i : Nat) (hi : i < s.length) (h : s[i] = 58) (hno : (58 : UInt8) ∉ s.take i) :
    Tr.entR s = (⟨(Tr.unq (s.take i)).getD [], 0, (Tr.pnum (s.drop (i + 1))).1⟩, (Tr.pnum (s.drop (i + 1))).2 && (Tr.unq (s.take i)).isSome) := by
  have hs : s = s.take i ++ 58 :: s.drop (i + 1) := by
    rw [← h, ← List.drop_eq_getElem_cons hi, List.take_append_drop]
  have hm : (58 : UInt8) ∈ s := by rw [← h]; exact List.getElem_mem hi
  have hc : Lib.cut s [58] = (s.take i, s.drop (i + 1), true) := by
    conv => lhs; rw [hs]
    exact Tr.cut_at 58 _ _ hno
  unfold Tr.entR Tr.toEnt
  rw [if_pos hm, hc]
set_option maxRecDepth 100000 in
set_option maxHeartbeats 4000000 in
theorem entryr_any (s : List UInt8) (w : World) (hP : Pw w) (hs : s.length ≤ 4000000) :
    Calls Tryd.prog 69 #[.string (S s)] w (EntRes (Tr.entR s) w) := by
  have hX := Lib.hid (Box.new w 39 #[.string ⟨#[]⟩, .int .i64 0, .int .i64 0])
  have hB0 := Lib.hid (show Below w.heap.size w (w.alloc (.cells #[.string ⟨#[]⟩, .int .i64 0, .int .i64 0] 39)) from (Below.refl _ _).alloc (Nat.le_refl _) _)
  replace hP := Lib.hid hP
  go_enter Tryd.func69, Tryd.ntmps69
  go_wp2_with fail
  go_loopw [4] (fun k wr => ∃ i : Nat, i ≤ s.length ∧ k = .int .i64 i ∧ (58 : UInt8) ∉ s.take i ∧ Box wr w.heap.size 39 #[.string ⟨#[]⟩, .int .i64 0, .int .i64 0] ∧ Below w.heap.size w wr)
    (fun k _ => s.length - (intOf k).toNat)
  case atStart => exact ⟨0, by omega, rfl, by simp, hX.out, hB0.out⟩
  case round =>
    obtain ⟨i, hi, rfl, hno, hbox, hW⟩ := hrel
    have hsz := hW.size
    by_cases hlt : i < s.length
    · by_cases h58 : s[i] = 58
      · have hfin := Lib.hid (Tr.entR_at s i hlt h58 hno)
        have hb : ((s[i].toNat : Int) == 58) = true := by rw [h58]; rfl
        have hb' : ((s[i].toNat : Int) != 58) = false := by rw [h58]; rfl
        replace hno := Lib.hid hno
        replace h58 := Lib.hid h58
        have hl1 : (s.take i).length ≤ 4000000 := by rw [List.length_take]; omega
        have hl2 : (s.drop (i + 1)).length ≤ 4000000 := by rw [List.length_drop]; omega
        have hN1 := fun w => unq_pair (s.take i) w (by omega)
        have hN2 := fun w hP => number_any (s.drop (i + 1)) w hP hl2
        clear hl1 hl2
        obtain ⟨⟨n, c⟩, hn⟩ : ∃ p, Tr.pnum (s.drop (i + 1)) = p := ⟨_, rfl⟩
        rw [hn] at hfin hN2
        obtain ⟨u, hu⟩ : ∃ u, Tr.unq (s.take i) = u := ⟨_, rfl⟩
        rw [hu] at hfin hN1
        replace hn := Lib.hid hn
        replace hu := Lib.hid hu
        replace hN1 := Lib.hid hN1
        replace hN2 := Lib.hid hN2
        replace hbox := Lib.hid hbox
        replace hW := Lib.hid hW
        cases c <;> cases u <;>
        · have hi1 : i + 1 ≤ s.length := hlt
          go_wp2_with fail
          refine (hN1.out _).mono ?_
          rintro e w1 ⟨rfl, hb1⟩
          have hB1 := Lib.hid (hW.out.trans (hb1.mono hsz))
          have hx1 := hbox.out.below hb1
          clear hb1
          replace hx1 := Lib.hid hx1
          go_wp2_with fail
          refine (hN2.out _ (hP.out.below hB1.out)).mono ?_
          rintro e w2 ⟨rfl, hb2⟩
          have hB2 := hB1.out.trans (hb2.mono hB1.out.size)
          have hx2 := hx1.out.below hb2
          clear hb2
          have cr0 := hx2.get 0 _ rfl
          have cr1 := hx2.get 1 _ rfl
          have cr2 := hx2.get 2 _ rfl
          have fr0 := hx2.frozen 0
          have fr1 := hx2.frozen 1
          have fr2 := hx2.frozen 2
          replace hx2 := Lib.hid hx2
          replace hB2 := Lib.hid hB2
          go_wp2_with fail
          obtain ⟨hp, hb3⟩ := put3 hx2.out (.string (S _)) (.int .i64 0) (.int .i64 _) hB2.out (Nat.le_refl _)
          refine bodyPost_ret (res69 hp rfl rfl) rfl ?_
          exact entRes_mk hfin.out rfl hb3
      · have hnx : (58 : UInt8) ∉ s.take (i + 1) := by
          rw [List.take_succ_eq_append_getElem hlt, List.mem_append, List.mem_singleton]
          exact fun h => h.elim hno (fun h => h58 h.symm)
        have hb : ((s[i].toNat : Int) == 58) = false := beq_eq_false_iff_ne.2 (fun e => h58 (UInt8.toNat_inj.1 (by show s[i].toNat = 58; omega)))
        have hb' : ((s[i].toNat : Int) != 58) = true := by rw [bne, hb]; rfl
        replace hno := Lib.hid hno
        replace h58 := Lib.hid h58
        replace hnx := Lib.hid hnx
        go_wp2_with fail
        go_roundw
        case rel => exact ⟨i + 1, by omega, by go_num, hnx.out, hbox, hW⟩
        case measure => simp [intOf]; omega
    · obtain rfl : i = s.length := by omega
      rw [List.take_length] at hno
      have hfin := Lib.hid (Tr.entR_no s hno)
      replace hno := Lib.hid hno
      have cr0 := hbox.get 0 _ rfl
      have cr1 := hbox.get 1 _ rfl
      have cr2 := hbox.get 2 _ rfl
      have fr0 := hbox.frozen 0
      have fr1 := hbox.frozen 1
      have fr2 := hbox.frozen 2
      go_wp2_with fail
      obtain ⟨hp, hb3⟩ := put3 hbox (.string ⟨#[]⟩) (.int .i64 0) (.int .i64 0) hW (Nat.le_refl _)
      refine bodyPost_ret (res69 hp rfl rfl) rfl ?_
      exact entRes_mk hfin.out rfl hb3
end Go.Proofs.YtpoongljokbgcaaDoor
