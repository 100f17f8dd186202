import Derived.Test.YtlgjlhgdpiipbaaMap
/- The reference's New: what its walk needs of an event, and what it answers. -/
namespace Go.Proofs.Ytlgjlhgdpiipbaa
open Go.RowKit
def RNewRes (bn pn : Int) (bad : List Int) (evs : List Ev) (w : World) (e : Ending) (w' : World) : Prop :=
  match newChip bn pn bad evs with
  | .error n => e = .returned (.tuple #[.pointer none, .int .i64 n]) ∧ Below w.heap.size w w'
  | .ok st => ∃ c Fm Fr L, e = .returned (.tuple #[.pointer (some ⟨c, 0, none⟩), .int .i64 0]) ∧ RefR w' Fm Fr c st L ∧ (∀ b, Fm b ∨ Fr b → w.heap.size ≤ b) ∧ Below w.heap.size w w'
theorem rnewRes_err {bn pn : Int} {bad : List Int} {evs : List Ev} {w w' : World} {n : Int} (h : newChip bn pn bad evs = .error n) (hb : Below w.heap.size w w') : RNewRes bn pn bad evs w (.returned (.tuple #[.pointer none, .int .i64 n])) w' := by
  unfold RNewRes; rw [h]; exact ⟨rfl, hb⟩
theorem rnewRes_ok {bn pn : Int} {bad : List Int} {evs : List Ev} {w w' : World} {st : Chip} {c : Nat} {Fm Fr : Nat → Prop} {L : RLay} (h : newChip bn pn bad evs = .ok st) (hC : RefR w' Fm Fr c st L) (hge : ∀ b, Fm b ∨ Fr b → w.heap.size ≤ b) (hb : Below w.heap.size w w') :
    RNewRes bn pn bad evs w (.returned (.tuple #[.pointer (some ⟨c, 0, none⟩), .int .i64 0])) w' := by
  unfold RNewRes; rw [h]; exact ⟨c, Fm, Fr, L, rfl, hC, hge, hb⟩
/-- append of a mask onto nothing. -/
theorem mask_append (W : World) (B : Nat) (hB : B ≤ W.heap.size) (ma : Option Addr) (mc : Nat) (em : List UInt8) (hr : RdB W (.slice ma em.length mc) em) (hm : em.length ≤ 1000) :
    ∃ ca cc u1, (Builtin.append_ #[65, 65] 65 #[.slice none 0 0, .slice ma em.length mc]).run Try.prog W = .ok (.slice ca em.length cc) u1 ∧ Below W.heap.size W u1 ∧ MaskS u1 B (.slice ca em.length cc) em := by
  obtain ⟨i0, hi0, hz0, hz1, hz2⟩ := info_parts infoByte
  by_cases he : em = []
  · subst he
    refine ⟨none, 0, W, append_nothing W 65 65 5 i0 Try.underlying65 hi0 (.slice none 0 0) none ma 0 mc rfl, Below.refl _ _, ⟨none, 0, rfl, Nat.le_refl _, fun j x h => by simp at h⟩, .inl rfl⟩
  · obtain ⟨b, o', cap, hv, hc, hb, hcell⟩ := hr.at he
    cases hv
    obtain ⟨v', u1, hrun, h2, h3, _⟩ := run_append_own_at (P := Try.prog) W W.heap.size 65 65 5 i0 (.int .u8 0) 1 1 Try.underlying65 hi0 hz0 hz1 hz2 rfl (by decide) (.slice none 0 0) 0 [] (World.ownsRow_nil _ _ _ _) ⟨b, o', none⟩ em.length mc (em.map byteV) (by simp)
      (fun j u hu => by
        rw [List.getElem?_map] at hu
        obtain ⟨y, hy, rfl⟩ := Option.map_eq_some_iff.1 hu
        have hj := (List.getElem?_eq_some_iff.1 hy).1
        have he : (⟨b, o', none⟩ : Addr).add j = ⟨b, o' + j, none⟩ := by unfold Addr.add; split <;> simp_all
        rw [he, hcell j hj]
        rw [List.getElem?_eq_getElem hj] at hy
        cases hy; rfl)
      (fun u hu => by obtain ⟨y, _, rfl⟩ := List.mem_map.1 hu; rfl) (by unfold maxLen; omega) (by omega) (Nat.le_refl _)
    rw [Nat.zero_add, List.nil_append] at h2
    obtain ⟨g, cap', rfl, hg, ho⟩ := OwnB.of_own h2 he
    refine ⟨some ⟨g, 0, none⟩, cap', u1, hrun, (Below.refl _ W).grown h3 (Nat.le_refl _) (fun k e => by simp [Value.ownBlock] at e), ho.rd, .inr ⟨g, cap', rfl, by omega, ho⟩⟩
/-- What a round of the events' loop needs. -/
theorem evr_push {w4 wr : World} {B c : Nat} {st : Chip} {L : RLay} {ps : List (Ev × Value)} {va ma : Option Addr} {n vc ml mc : Nat} {ea ek : Int} {em : List UInt8} (hE : EvNewR w4 wr c st L ps (.slice va n vc)) (hpl : ps.length = n) (hn : n < 10000000) (hB : B ≤ w4.heap.size) (hBc : B ≤ c)
    (hr : RdB wr (.slice ma ml mc) em) (hml : em.length = ml) (hm : ml ≤ 1000) :
    wr.drew.cell? ⟨c, 3, none⟩ = some (.slice va n vc) ∧ ∃ ca cc u1, (Builtin.append_ #[65, 65] 65 #[.slice none 0 0, .slice ma ml mc]).run Try.prog wr.drew = .ok (.slice ca ml cc) u1 ∧ Below B wr u1 ∧ u1.cell? ⟨c, 3, none⟩ = some (.slice va n vc) ∧
      Below B wr (u1.alloc (.cells #[.int .i64 ea, .int .i64 ek, .slice ca ml cc] 67)) ∧ (u1.alloc (.cells #[.int .i64 ea, .int .i64 ek, .slice ca ml cc] 67)).cell? ⟨c, 3, none⟩ = some (.slice va n vc) ∧
      ∃ va' vn vc' u3, (Builtin.append_ #[25, 25] 25 #[.slice va n vc, .slice (some ⟨u1.heap.size, 0, none⟩) 1 1]).run Try.prog (u1.alloc (.cells #[.int .i64 ea, .int .i64 ek, .slice ca ml cc] 67)) = .ok (.slice va' vn vc') u3 ∧ vn = n + 1 ∧ Below B wr u3 ∧ u3.cell? ⟨c, 3, none⟩ = some (.slice va n vc) ∧ u3.frozen? ⟨c, 3, none⟩ = false ∧
        Below B wr (u3.setCell ⟨c, 3, none⟩ (.slice va' (n + 1) vc')) ∧ EvNewR w4 (u3.setCell ⟨c, 3, none⟩ (.slice va' (n + 1) vc')) c st L (ps ++ [(⟨ea, ek, em⟩, .slice ca ml cc)]) (.slice va' (n + 1) vc') := by
  subst hpl hml
  have hBr : B ≤ wr.heap.size := Nat.le_trans hB hE.grown.size
  have hd : Below wr.heap.size wr wr.drew := (Below.refl _ _).drew
  obtain ⟨ca, cc, u1, hrun1, hb1, hms⟩ := mask_append wr.drew w4.heap.size hE.grown.size ma mc em (hr.below hd) (by omega)
  have h1 : Below wr.heap.size wr u1 := hd.trans hb1
  have hE1 := hE.below h1
  have hal : Below u1.heap.size u1 (u1.alloc (.cells #[.int .i64 ea, .int .i64 ek, .slice ca em.length cc] 67)) := (Below.refl _ _).alloc (Nat.le_refl _) _
  have h2 := h1.trans (hal.mono h1.size)
  have hE2 := hE.below h2
  have hms2 := hms.heap (W' := u1.alloc (.cells #[.int .i64 ea, .int .i64 ek, .slice ca em.length cc] 67)) (fun g cap _ ho => hal.block g ho.lt)
  have bn := Box.new u1 67 #[.int .i64 ea, .int .i64 ek, .slice ca em.length cc]
  obtain ⟨v', u3, hrun2, hsz3, hcx, ⟨va', vc', rfl⟩, hN⟩ := hE2.push hn u1.heap.size ⟨ea, ek, em⟩ _ hms2 (bn.get 0 _ rfl) (bn.get 1 _ rfl) (bn.get 2 _ rfl) 25
  have hg3 : Below B wr u3 := by
    have hsz : (u3.setCell ⟨c, 3, none⟩ (.slice va' (ps.length + 1) vc')).heap.size = u3.heap.size := by simp [World.setCell]
    refine ⟨?_, ?_, ?_, ?_, fun b hb => ?_⟩
    · exact hN.grown.os.trans (hE.grown.os.symm)
    · exact hN.grown.tape.trans (hE.grown.tape.symm)
    · exact hN.grown.output.trans (hE.grown.output.symm)
    · exact Nat.le_trans h2.size hsz3
    · have e1 := hN.grown.block b (by omega) (fun e => by cases e; omega)
      rw [Below.heap_setCell u3 ⟨c, 3, none⟩ _ b (show b ≠ c by omega)] at e1
      exact e1.trans (hE.grown.block b (by omega) (fun e => by cases e; omega)).symm
  refine ⟨hE.chip.drew.get 3 _ rfl, ca, cc, u1, hrun1, h1.mono hBr, hE1.chip.get 3 _ rfl, h2.mono hBr, hE2.chip.get 3 _ rfl, va', _, vc', u3, hrun2, rfl, hg3, hcx.get 3 _ rfl, hcx.frozen 3, hg3.setCell (p := ⟨c, 3, none⟩) hBc _, hN⟩
end Go.Proofs.Ytlgjlhgdpiipbaa
