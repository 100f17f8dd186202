import Derived.Test.YtpoongljokbgcaaDoorTbg
import Derived.Test.YtpoongljokbgcaaDoorTbf
import Derived.Test.YtpoongljokbgcaaDoorTbi
import Derived.Test.YtpoongljokbgcaaDoorTbj
import Derived.Test.YtpoongljokbgcaaDoorTbk
import Derived.Test.YtpoongljokbgcaaDoorTbh
/- The reference's words of a line (slipwayref27.words). -/
namespace Go.Proofs.YtpoongljokbgcaaDoor
open Go.RowKit
/-- What stands at the head of the loop: the words so far, the word that is under way. -/
def WInv (s : List UInt8) (i f : Nat) (out : List (List UInt8)) : Prop :=
  out.length ≤ i ∧ ((i ≤ s.length ∧ f ≤ i ∧ (32 : UInt8) ∉ (s.take i).drop f ∧ Tr.spl 32 s = out ++ Tr.spl 32 ((s.take i).drop f ++ s.drop i)) ∨ (i = s.length + 1 ∧ Tr.spl 32 s = out))
theorem WInv.zero (s : List UInt8) : WInv s 0 0 [] := ⟨Nat.le_refl _, .inl ⟨Nat.zero_le _, Nat.le_refl _, by simp, by simp⟩⟩
theorem WInv.le {s : List UInt8} {i f : Nat} {out : List (List UInt8)} (h : WInv s i f out) (hi : i ≤ s.length) : f ≤ i := by
  rcases h.2 with h | h
  · exact h.2.1
  · omega
theorem WInv.other {s : List UInt8} {i f : Nat} {out : List (List UInt8)} (h : WInv s i f out) (hi : i < s.length) (hc : s[i] ≠ 32) : WInv s (i + 1) f out := by
  rcases h.2 with ⟨h1, h2, h3, h4⟩ | h
  · have ht : (s.take (i + 1)).drop f = (s.take i).drop f ++ [s[i]] := by
      rw [List.take_succ_eq_append_getElem hi, List.drop_append_of_le_length (by simp; omega)]
    refine ⟨by have := h.1; omega, .inl ⟨by omega, by omega, ?_, ?_⟩⟩
    · rw [ht]; simp only [List.mem_append, List.mem_cons, List.not_mem_nil, or_false, not_or]
      exact ⟨h3, fun e => hc e.symm⟩
    · rw [ht, h4, List.drop_eq_getElem_cons hi]; simp
  · omega
theorem WInv.blank {s : List UInt8} {i f : Nat} {out : List (List UInt8)} (h : WInv s i f out) (hi : i < s.length) (hc : s[i] = 32) : WInv s (i + 1) (i + 1) (out ++ [(s.take i).drop f]) := by
  rcases h.2 with ⟨h1, h2, h3, h4⟩ | h
  · have ht : (s.take (i + 1)).drop (i + 1) = [] := by rw [List.drop_eq_nil_iff]; simp; omega
    refine ⟨by have := h.1; simp; omega, .inl ⟨by omega, by omega, by rw [ht]; simp, ?_⟩⟩
    rw [ht, h4, List.drop_eq_getElem_cons hi, hc, Tr.spl_cons 32 _ _ h3]; simp
  · omega
theorem WInv.last {s : List UInt8} {f : Nat} {out : List (List UInt8)} (h : WInv s s.length f out) : WInv s (s.length + 1) (s.length + 1) (out ++ [(s.take s.length).drop f]) := by
  rcases h.2 with ⟨h1, h2, h3, h4⟩ | h
  · refine ⟨by have := h.1; simp; omega, .inr ⟨rfl, ?_⟩⟩
    rw [h4, List.drop_length, List.append_nil, Tr.spl_one 32 _ h3]
  · omega
theorem WInv.end {s : List UInt8} {f : Nat} {out : List (List UInt8)} (h : WInv s (s.length + 1) f out) : Tr.spl 32 s = out := by
  rcases h.2 with h | h
  · omega
  · exact h.2
set_option maxRecDepth 100000 in
set_option maxHeartbeats 4000000 in
theorem wordsr_any (s : List UInt8) (w : World) (hs : s.length ≤ 4000000) :
    Calls Tryd.prog 65 #[.string (S s)] w (OwnTexts (Tr.spl 32 s) w) := by
  obtain ⟨i0, hi0, hz0, hz1, hz2⟩ := info_parts infoStr
  go_enter Tryd.func65, Tryd.ntmps65
  go_wp2_with fail
  go_loopw [3, 4, 5] (fun o f k wr => ∃ (i j : Nat) (out : List (List UInt8)), i ≤ s.length + 1 ∧ k = .int .i64 i ∧ f = .int .i64 j ∧ WInv s i j out ∧ wr.ownsRow w.heap.size 9 1 o out.length (out.map strV) ∧ Below w.heap.size w wr)
    (fun _ _ k _ => s.length + 1 - (intOf k).toNat)
  case atStart => exact ⟨0, 0, [], by omega, rfl, rfl, WInv.zero s, World.ownsRow_nil _ _ _ _, Below.refl _ _⟩
  case round =>
    obtain ⟨i, j, out, hi, rfl, rfl, hinv, hown, hW⟩ := hrel
    have hsz := hW.size
    have hol := hinv.1
    by_cases hle : i ≤ s.length
    · have hji := hinv.le hle
      by_cases hlt : i < s.length
      · have hil : ((i : Int) == (s.length : Int)) = false := beq_eq_false_iff_ne.2 (by omega)
        by_cases h32 : s[i] = 32
        · have hnx := Lib.hid (hinv.blank hlt h32)
          replace hinv := Lib.hid hinv
          have hb : ((s[i].toNat : Int) == 32) = true := by rw [h32]; rfl
          replace h32 := Lib.hid h32
          go_wp2_with (at_builtin; refine wpList_append_lies _ rfl _ _ 58 rfl w.heap.size 9 i0 (.string ⟨#[]⟩) 1 16 Tryd.underlying58 hi0 hz0 hz1 hz2 rfl (by decide) _ out.length (out.map strV) rfl (hown.alloc _) ⟨wr.heap.size, 0, none⟩ 1 1 [.string (S ((s.take i).drop j))] rfl rfl (World.news_of_block (heap_alloc_new wr (.cells #[.string (S ((s.take i).drop j))] 9))) (by simp [Value.oneCell']) (by omega) (by unfold maxLen; omega) (by omega) (by rw [World.size_alloc]; omega) _ rfl ?_; intro vg vc w1 hown1 hgrow _ _)
          go_roundw
          case rel => exact ⟨i + 1, i + 1, out ++ [(s.take i).drop j], by omega, by go_num, by go_num, hnx.out, by rw [List.length_append, List.map_append]; exact hown1, (hW.alloc hsz _).grown hgrow (by rw [World.size_alloc]; omega) (fun k hk => (hown.lt k hk).1)⟩
          case measure => simp [intOf]; omega
        · have hnx := Lib.hid (hinv.other hlt h32)
          replace hinv := Lib.hid hinv
          have hb : ((s[i].toNat : Int) == 32) = false := beq_eq_false_iff_ne.2 (fun e => h32 (UInt8.toNat_inj.1 (by show s[i].toNat = 32; omega)))
          replace h32 := Lib.hid h32
          go_wp2_with fail
          go_roundw
          case rel => exact ⟨i + 1, j, out, by omega, by go_num, rfl, hnx.out, hown, hW⟩
          case measure => simp [intOf]; omega
      · obtain rfl : i = s.length := by omega
        have hnx := hinv.last
        replace hinv := Lib.hid hinv
        rw [List.take_length] at hnx
        replace hnx := Lib.hid hnx
        go_wp2_with (at_builtin; refine wpList_append_lies _ rfl _ _ 58 rfl w.heap.size 9 i0 (.string ⟨#[]⟩) 1 16 Tryd.underlying58 hi0 hz0 hz1 hz2 rfl (by decide) _ out.length (out.map strV) rfl (hown.alloc _) ⟨wr.heap.size, 0, none⟩ 1 1 [.string (S (s.drop j))] rfl rfl (World.news_of_block (heap_alloc_new wr (.cells #[.string (S (s.drop j))] 9))) (by simp [Value.oneCell']) (by omega) (by unfold maxLen; omega) (by omega) (by rw [World.size_alloc]; omega) _ rfl ?_; intro vg vc w1 hown1 hgrow _ _)
        go_roundw
        case rel => exact ⟨s.length + 1, s.length + 1, out ++ [s.drop j], by omega, by go_num, by go_num, hnx.out, by rw [List.length_append, List.map_append]; exact hown1, (hW.alloc hsz _).grown hgrow (by rw [World.size_alloc]; omega) (fun k hk => (hown.lt k hk).1)⟩
        case measure => simp [intOf]
    · obtain rfl : i = s.length + 1 := by omega
      have hfin := Lib.hid hinv.end
      go_wp2_with fail
      go_ret
      exact ⟨_, rfl, by rw [hfin.out]; exact hown, hW⟩
end Go.Proofs.YtpoongljokbgcaaDoor
/- A slice of texts that lies ahead of a block. -/
namespace Go.Proofs.YtpoongljokbgcaaDoor
open Go.RowKit
/-- A slice of texts that lies ahead of block b. -/
def RdW (W : World) (v : Value) (ws : List (List UInt8)) (b : Nat) : Prop :=
  ∃ a cap, v = .slice a ws.length cap ∧ ws.length ≤ cap ∧ cap ≤ maxLen ∧ ∀ j x, ws[j]? = some x → ∃ b' o, a = some ⟨b', o, none⟩ ∧ b' < W.heap.size ∧ W.cell? ⟨b', o + j, none⟩ = some (strV x) ∧ b' < b
theorem RdW.below {W W' : World} {v : Value} {ws : List (List UInt8)} {b : Nat} (h : RdW W v ws b) (hb : Below W.heap.size W W') : RdW W' v ws b := by
  obtain ⟨a, cap, h1, h2, hm, h3⟩ := h
  refine ⟨a, cap, h1, h2, hm, fun j x hj => ?_⟩
  obtain ⟨b', o, e1, e2, e3, e4⟩ := h3 j x hj
  exact ⟨b', o, e1, Nat.lt_of_lt_of_le e2 hb.size, by rw [hb.cell (p := ⟨b', o + j, none⟩) e2]; exact e3, e4⟩
theorem RdW.setCell {W : World} {v : Value} {ws : List (List UInt8)} {b : Nat} (h : RdW W v ws b) (i : Nat) (u : Value) : RdW (W.setCell ⟨b, i, none⟩ u) v ws b := by
  obtain ⟨a, cap, h1, h2, hm, h3⟩ := h
  refine ⟨a, cap, h1, h2, hm, fun j x hj => ?_⟩
  obtain ⟨b', o, e1, e2, e3, e4⟩ := h3 j x hj
  refine ⟨b', o, e1, by simpa [World.setCell] using e2, ?_, e4⟩
  rw [World.cell?_setCell_other _ _ _ _ (by intro h; have h' := congrArg Addr.block h; simp at h'; omega)]
  exact e3
theorem RdW.cons {W : World} {v : Value} {x : List UInt8} {r : List (List UInt8)} {b : Nat} (h : RdW W v (x :: r) b) :
    ∃ b' o cap, v = .slice (some ⟨b', o, none⟩) (r.length + 1) cap ∧ r.length + 1 ≤ cap ∧ cap ≤ 9223372036854775807 ∧ b' < b ∧ W.cell? ⟨b', o, none⟩ = some (.string (S x)) ∧
      RdW W (.slice (if cap = 1 then some ⟨b', o, none⟩ else some ⟨b', o + 1, none⟩) r.length (cap - 1)) r b := by
  obtain ⟨a, cap, rfl, h2, hm, h3⟩ := h
  obtain ⟨b', o, rfl, e2, e3, e4⟩ := h3 0 x rfl
  rw [List.length_cons] at h2
  refine ⟨b', o, cap, rfl, h2, hm, e4, e3, ?_⟩
  by_cases hc : cap = 1
  · obtain rfl : r = [] := List.eq_nil_of_length_eq_zero (by omega)
    rw [if_pos hc]
    exact ⟨_, cap - 1, rfl, by simp, by omega, fun j y hj => by simp at hj⟩
  · rw [if_neg hc]
    refine ⟨_, cap - 1, rfl, by omega, by omega, fun j y hj => ?_⟩
    obtain ⟨b2, o2, e5, e6, e7, e8⟩ := h3 (j + 1) y (by simpa using hj)
    cases e5
    exact ⟨b', o + 1, rfl, e6, by rw [show o + 1 + j = o + (j + 1) by omega]; exact e7, e8⟩
theorem RdW.form {W : World} {v : Value} {ws : List (List UInt8)} {b : Nat} (h : RdW W v ws b) : ∃ a cap, v = .slice a ws.length cap := by
  obtain ⟨a, cap, h1, _⟩ := h; exact ⟨a, cap, h1⟩
theorem RdW.of_own {W : World} {B b : Nat} {v : Value} {ws : List (List UInt8)} (h : W.ownsRow B 9 1 v ws.length (ws.map strV)) (hb : W.heap.size ≤ b) : RdW W v ws b := by
  have hr := Rd.of_own (enc := strV) h
  obtain ⟨a, cap, h1, h2, h3⟩ := hr
  have hm : cap ≤ maxLen := by
    obtain ⟨_, ⟨rfl, h0⟩ | ⟨g, cap', cur, rfl, hg, hh, hc, hm, _⟩⟩ := h
    · simp only [Value.slice.injEq] at h1; omega
    · simp only [Value.slice.injEq] at h1; omega
  exact ⟨a, cap, h1, h2, hm, fun j x hj => by obtain ⟨b', o, e1, e2, e3⟩ := h3 j x hj; exact ⟨b', o, e1, e2, e3, by omega⟩⟩
end Go.Proofs.YtpoongljokbgcaaDoor
/- What stands between two steps of the reference's Parse. -/
namespace Go.Proofs.YtpoongljokbgcaaDoor
open Go.RowKit
/-- Between two steps: the words that are left, whether all was well, the call so far in block b; block h is the result's. -/
structure PSt (w : World) (h b : Nat) (s : Tr.St) (v ok : Value) (W : World) : Prop where
  ws : RdW W v s.ws b
  ok : ok = .bool s.ok
  box : ∃ ad cp, Box W b 44 (aggO s.op ad cp) ∧ RdB W (.slice ad s.op.data.length cp) s.op.data
  res : Box W h 44 zero44
  bel : Below w.heap.size w W
theorem PSt.below {w : World} {h b : Nat} {s : Tr.St} {v ok : Value} {W W' : World} (p : PSt w h b s v ok W) (hb : Below W.heap.size W W') : PSt w h b s v ok W' :=
  ⟨p.ws.below hb, p.ok, by obtain ⟨ad, cp, x, r⟩ := p.box; exact ⟨ad, cp, x.below hb, r.below hb⟩, p.res.below hb, p.bel.trans (hb.mono p.bel.size)⟩
theorem unquoter_pair (l : List UInt8) (w : World) (hl : 3 * l.length ≤ 140737488355328) :
    Calls Tryd.prog 11 #[.string (S l)] w (PairText ((Tr.unq l).getD []) (if (Tr.unq l).isSome then 0 else 270) w) :=
  (unquoter_any l w hl).mono fun e w' ⟨he, hb⟩ => ⟨by rw [he]; cases Tr.unq l <;> rfl, hb⟩
theorem step_no {s : Tr.St} {c : Bool} {f : Opr → List UInt8 → Opr × Bool} (h : (s.ok && c && !s.ws.isEmpty) = false) : s.step c f = s := by
  unfold Tr.St.step
  split
  · rename_i h1
    rw [h1] at h
    cases hw : s.ws with
    | nil => rfl
    | cons x r => rw [hw] at h; simp at h
  · rfl
theorem step_yes {s : Tr.St} {c : Bool} {f : Opr → List UInt8 → Opr × Bool} {x : List UInt8} {r : List (List UInt8)} (h : s.ok = true) (hc : c = true) (hw : s.ws = x :: r) : s.step c f = ⟨(f s.op x).1, r, (f s.op x).2⟩ := by
  unfold Tr.St.step
  rw [h, hc, hw]; rfl
/-- one cell of the call's block laid anew, its data where they were -/
theorem box_data {W : World} {b : Nat} {o : Opr} {ad : Option Addr} {cp : Nat} (x : Box W b 44 (aggO o ad cp)) (r : RdB W (.slice ad o.data.length cp) o.data) : RdX W (.slice ad o.data.length cp) o.data b :=
  rdX_of r x (noU8_agg o ad cp)
/-- The answer of the reference's Parse. -/
def OpRd (r : Option Opr) (w : World) (e : Ending) (w' : World) : Prop :=
  ∃ dv, e = .returned (.tuple #[opV (r.getD Tr.zero) dv, .int .i64 (if r.isSome then 0 else 270)]) ∧ RdB w' dv (r.getD Tr.zero).data ∧ Below w.heap.size w w'
theorem st_kind (s : Tr.St) (c : Bool) (f : Opr → List UInt8 → Opr × Bool) (hf : ∀ o x, (f o x).1.kind = o.kind) : (s.step c f).op.kind = s.op.kind := by
  unfold Tr.St.step
  split
  · split
    · rfl
    · exact hf _ _
  · rfl
theorem st_ws (s : Tr.St) (c : Bool) (f : Opr → List UInt8 → Opr × Bool) : ∀ x ∈ (s.step c f).ws, x ∈ s.ws := by
  unfold Tr.St.step
  split
  · split
    · rename_i h; exact fun x hx => hx
    · rename_i y r h
      intro x hx
      rw [h]
      exact List.mem_cons_of_mem _ hx
  · exact fun x hx => hx
theorem PSt.put {w : World} {h b : Nat} {s : Tr.St} {v ok : Value} {W : World} (p : PSt w h b s v ok W) (hb : w.heap.size ≤ b) (hne : b ≠ h) (i : Nat) (u : Value) (s' : Tr.St) (v' : Value) (hv : RdW W v' s'.ws b)
    (hx : ∀ ad cp, Box W b 44 (aggO s.op ad cp) → RdB W (.slice ad s.op.data.length cp) s.op.data → ∃ ad' cp', Box (W.setCell ⟨b, i, none⟩ u) b 44 (aggO s'.op ad' cp') ∧ RdB (W.setCell ⟨b, i, none⟩ u) (.slice ad' s'.op.data.length cp') s'.op.data) :
    PSt w h b s' v' (.bool s'.ok) (W.setCell ⟨b, i, none⟩ u) :=
  ⟨hv.setCell i u, rfl, by obtain ⟨ad, cp, x, r⟩ := p.box; exact hx ad cp x r, p.res.setFar ⟨b, i, none⟩ u hne, p.bel.setCell (p := ⟨b, i, none⟩) hb u⟩
namespace Tr
structure St.short (N : Nat) (s : St) : Prop where
  path : s.op.path.length ≤ N
  dest : s.op.dest.length ≤ N
  ws : ∀ x ∈ s.ws, x.length ≤ N
theorem step_short {N : Nat} {s : St} {c : Bool} {f : Opr → List UInt8 → Opr × Bool} (h : s.short N) (hf : ∀ x, x.length ≤ N → (f s.op x).1.path.length ≤ N ∧ (f s.op x).1.dest.length ≤ N) : (s.step c f).short N := by
  unfold St.step
  split
  · split
    · exact h
    · rename_i x r hw
      have := hf x (h.ws x (by rw [hw]; exact List.mem_cons_self ..))
      exact ⟨this.1, this.2, fun y hy => h.ws y (by rw [hw]; exact List.mem_cons_of_mem _ hy)⟩
  · exact h
theorem all_short (line : List UInt8) : (stAll line).short line.length := by
  unfold stAll
  have h0 : (st0 line).short line.length := ⟨Nat.zero_le _, Nat.zero_le _, fun x hx => spl_mem 32 line x (List.mem_of_mem_drop hx)⟩
  have h1 : (sPath (st0 line)).short line.length := step_short h0 fun x hx => ⟨Nat.le_trans (unq_len x) hx, h0.dest⟩
  have h2 : (sTo (sPath (st0 line))).short line.length := step_short h1 fun x hx => ⟨h1.path, Nat.le_trans (unq_len x) hx⟩
  have h3 : (sOff (sTo (sPath (st0 line)))).short line.length := step_short h2 fun x hx => ⟨h2.path, h2.dest⟩
  have h4 : (sLen (sOff (sTo (sPath (st0 line))))).short line.length := step_short h3 fun x hx => ⟨h3.path, h3.dest⟩
  exact step_short h4 fun x hx => ⟨h4.path, h4.dest⟩
end Tr
theorem res26 {W : World} {b : Nat} {v0 v1 v2 v3 v4 v5 : Value} (h : Box W b 44 #[v0, v1, v2, v3, v4, v5]) {tmps : Array Value} {n : Int} (h2 : tmps.getD 2 undef = .pointer (some ⟨b, 0, none⟩)) (h3 : tmps.getD 3 undef = .int .i64 n) :
    (results Tryd.f26 tmps).run Tryd.prog W = .ok (.tuple #[.agg #[v0, v1, v2, v3, v4, v5], .int .i64 n]) W := by
  have d0 := h.get 0 _ rfl
  have d1 := h.get 1 _ rfl
  have d2 := h.get 2 _ rfl
  have d3 := h.get 3 _ rfl
  have d4 := h.get 4 _ rfl
  have d5 := h.get 5 _ rfl
  simp at h2 h3
  simp [results, Tryd.results26, go_sem, h2, h3, d0, d1, d2, d3, d4, d5]
theorem opRd_none {r : Option Opr} {w : World} {e : Ending} {w' : World} (h : r = none) (he : e = .returned (.tuple #[.agg #[.int .i64 0, .string ⟨#[]⟩, .string ⟨#[]⟩, .int .i64 0, .int .i64 0, .slice none 0 0], .int .i64 270])) (hb : Below w.heap.size w w') : OpRd r w e w' := by
  subst h; exact ⟨_, he, Rd.nil _ _, hb⟩
theorem opRd_some {r : Option Opr} {o : Opr} {ad : Option Addr} {cp : Nat} {w : World} {e : Ending} {w' : World} (h : r = some o) (he : e = .returned (.tuple #[.agg (aggO o ad cp), .int .i64 0])) (hr : RdB w' (.slice ad o.data.length cp) o.data) (hb : Below w.heap.size w w') : OpRd r w e w' := by
  subst h; exact ⟨_, he, hr, hb⟩
end Go.Proofs.YtpoongljokbgcaaDoor
/- What stands between two steps of the reference's Parse, where the data lie told, too. -/
namespace Go.Proofs.YtpoongljokbgcaaDoor
open Go.RowKit
/-- A slice's array lies at or behind block B. -/
def FarA (B : Nat) (ad : Option Addr) : Prop := ∀ a, ad = some a → B ≤ a.block
theorem FarA.none (B : Nat) : FarA B none := fun _ h => by cases h
theorem FarA.mono {B B' : Nat} {ad : Option Addr} (h : FarA B ad) (hb : B' ≤ B) : FarA B' ad := fun a e => Nat.le_trans hb (h a e)
theorem far_own {W : World} {B B' : Nat} {e : TypeId} {size : Nat} {ad : Option Addr} {k c n : Nat} {xs : List Value} (h : W.ownsRow B e size (.slice ad k c) n xs) (hb : B' ≤ B) : FarA B' ad := by
  rcases h.2 with ⟨hv, _⟩ | ⟨g, cap, cur, hv, hg, _⟩
  · cases hv; exact FarA.none _
  · cases hv; intro a ha; cases ha; exact Nat.le_trans hb hg
structure PSf (w : World) (h b : Nat) (s : Tr.St) (v ok : Value) (W : World) : Prop where
  ws : RdW W v s.ws b
  ok : ok = .bool s.ok
  box : ∃ ad cp, Box W b 44 (aggO s.op ad cp) ∧ RdB W (.slice ad s.op.data.length cp) s.op.data ∧ FarA w.heap.size ad
  res : Box W h 44 zero44
  bel : Below w.heap.size w W
theorem PSf.below {w : World} {h b : Nat} {s : Tr.St} {v ok : Value} {W W' : World} (p : PSf w h b s v ok W) (hb : Below W.heap.size W W') : PSf w h b s v ok W' :=
  ⟨p.ws.below hb, p.ok, by obtain ⟨ad, cp, x, r, f⟩ := p.box; exact ⟨ad, cp, x.below hb, r.below hb, f⟩, p.res.below hb, p.bel.trans (hb.mono p.bel.size)⟩
/-- The answer of the reference's Parse; its data are the call's own. -/
def OpRf (r : Option Opr) (w : World) (e : Ending) (w' : World) : Prop :=
  ∃ ad cp, e = .returned (.tuple #[opV (r.getD Tr.zero) (.slice ad (r.getD Tr.zero).data.length cp), .int .i64 (if r.isSome then 0 else 270)]) ∧ RdB w' (.slice ad (r.getD Tr.zero).data.length cp) (r.getD Tr.zero).data ∧ FarA w.heap.size ad ∧ Below w.heap.size w w'
theorem PSf.put {w : World} {h b : Nat} {s : Tr.St} {v ok : Value} {W : World} (p : PSf w h b s v ok W) (hb : w.heap.size ≤ b) (hne : b ≠ h) (i : Nat) (u : Value) (s' : Tr.St) (v' : Value) (hv : RdW W v' s'.ws b)
    (hx : ∀ ad cp, Box W b 44 (aggO s.op ad cp) → RdB W (.slice ad s.op.data.length cp) s.op.data → FarA w.heap.size ad → ∃ ad' cp', Box (W.setCell ⟨b, i, none⟩ u) b 44 (aggO s'.op ad' cp') ∧ RdB (W.setCell ⟨b, i, none⟩ u) (.slice ad' s'.op.data.length cp') s'.op.data ∧ FarA w.heap.size ad') :
    PSf w h b s' v' (.bool s'.ok) (W.setCell ⟨b, i, none⟩ u) :=
  ⟨hv.setCell i u, rfl, by obtain ⟨ad, cp, x, r, f⟩ := p.box; exact hx ad cp x r f, p.res.setFar ⟨b, i, none⟩ u hne, p.bel.setCell (p := ⟨b, i, none⟩) hb u⟩
theorem opRf_none {r : Option Opr} {w : World} {e : Ending} {w' : World} (h : r = none) (he : e = .returned (.tuple #[.agg #[.int .i64 0, .string ⟨#[]⟩, .string ⟨#[]⟩, .int .i64 0, .int .i64 0, .slice none 0 0], .int .i64 270])) (hb : Below w.heap.size w w') : OpRf r w e w' := by
  subst h; exact ⟨none, 0, he, Rd.nil _ _, FarA.none _, hb⟩
theorem opRf_some {r : Option Opr} {o : Opr} {ad : Option Addr} {cp : Nat} {w : World} {e : Ending} {w' : World} (h : r = some o) (he : e = .returned (.tuple #[.agg (aggO o ad cp), .int .i64 0])) (hr : RdB w' (.slice ad o.data.length cp) o.data) (hb : Below w.heap.size w w') (hf : FarA w.heap.size ad) : OpRf r w e w' := by
  subst h; exact ⟨ad, cp, he, hr, hf, hb⟩
end Go.Proofs.YtpoongljokbgcaaDoor
/- A list of calls that grows: what an append keeps. -/
namespace Go.Proofs.YtpoongljokbgcaaDoor
open Go.RowKit
/-- A slice of bytes reads as this list, its array another block than the row's. -/
def RdAp (W : World) (v : Value) (l : List UInt8) (row : Option Nat) : Prop :=
  ∃ a cap, v = .slice a l.length cap ∧ l.length ≤ cap ∧ ∀ j x, l[j]? = some x → ∃ b o, a = some ⟨b, o, none⟩ ∧ b < W.heap.size ∧ some b ≠ row ∧ W.cell? ⟨b, o + j, none⟩ = some (byteV x)
theorem RdAp.rd {W : World} {v : Value} {l : List UInt8} {row : Option Nat} (h : RdAp W v l row) : RdB W v l := by
  obtain ⟨a, cap, h1, h2, h3⟩ := h
  exact ⟨a, cap, h1, h2, fun j x hj => by obtain ⟨b, o, e1, e2, _, e4⟩ := h3 j x hj; exact ⟨b, o, e1, e2, e4⟩⟩
theorem RdAp.of_far {W : World} {ad : Option Addr} {l : List UInt8} {n cp B : Nat} {row : Option Nat} (h : RdB W (.slice ad n cp) l) (hf : FarA B ad) (hr : ∀ g, row = some g → g < B) : RdAp W (.slice ad n cp) l row := by
  obtain ⟨a, cap, h1, h2, h3⟩ := h
  cases h1
  refine ⟨_, _, rfl, h2, fun j x hj => ?_⟩
  obtain ⟨b, o, e1, e2, e4⟩ := h3 j x hj
  refine ⟨b, o, e1, e2, fun e => ?_, e4⟩
  have h5 := hf _ e1
  have h6 := hr b e.symm
  simp only at h5
  omega
theorem RdAp.below {W W' : World} {v : Value} {l : List UInt8} {row : Option Nat} (h : RdAp W v l row) (hb : Below W.heap.size W W') : RdAp W' v l row := by
  obtain ⟨a, cap, h1, h2, h3⟩ := h
  refine ⟨a, cap, h1, h2, fun j x hj => ?_⟩
  obtain ⟨b, o, e1, e2, e3, e4⟩ := h3 j x hj
  exact ⟨b, o, e1, Nat.lt_of_lt_of_le e2 hb.size, e3, (hb.cell (p := ⟨b, o + j, none⟩) e2).trans e4⟩
structure OwnO (W : World) (B : Nat) (v : Value) (ds : List (Opr × Value)) : Prop where
  own : W.ownsRow B 44 6 v ds.length (cellsO ds)
  data : ∀ p ∈ ds, RdAp W p.2 p.1.data v.ownBlock
theorem OwnO.nil (W : World) (B : Nat) : OwnO W B (.slice none 0 0) [] := ⟨World.ownsRow_nil _ _ _ _, fun p hp => by simp at hp⟩
theorem OwnO.rd {W : World} {B : Nat} {v : Value} {ds : List (Opr × Value)} (h : OwnO W B v ds) : RdO W v (ds.map Prod.fst) := RdO.of_own h.own fun p hp => (h.data p hp).rd
theorem OwnO.below {W W' : World} {B : Nat} {v : Value} {ds : List (Opr × Value)} (h : OwnO W B v ds) (hb : Below W.heap.size W W') : OwnO W' B v ds :=
  ⟨own_below h.own hb, fun p hp => by
    obtain ⟨a, cap, h1, h2, h3⟩ := h.data p hp
    refine ⟨a, cap, h1, h2, fun j x hj => ?_⟩
    obtain ⟨b, o, e1, e2, e3, e4⟩ := h3 j x hj
    exact ⟨b, o, e1, Nat.lt_of_lt_of_le e2 hb.size, e3, (hb.cell (p := ⟨b, o + j, none⟩) e2).trans e4⟩⟩
/-- 'l = append(l, o)': W2 is the world at the append; the new call's data lie apart. -/
theorem OwnO.push {W2 w3 : World} {B : Nat} {v : Value} {ds : List (Opr × Value)} {p : Opr × Value} {g n cap : Nat} (h : OwnO W2 B v ds) (hp : RdAp W2 p.2 p.1.data v.ownBlock)
    (hown : w3.ownsRow B 44 6 (.slice (some ⟨g, 0, none⟩) n cap) (ds.length + 1) (cellsO ds ++ [.int .i64 p.1.kind, .string (S p.1.path), .string (S p.1.dest), .int .i64 p.1.off, .int .i64 p.1.len, p.2]))
    (hgrow : W2.grownBy w3 v.ownBlock) (hat : v.ownBlock = some g ∨ g = W2.heap.size) : OwnO w3 B (.slice (some ⟨g, 0, none⟩) n cap) (ds ++ [p]) := by
  have hk : ∀ q : Opr × Value, RdAp W2 q.2 q.1.data v.ownBlock → RdAp w3 q.2 q.1.data (some g) := by
    intro q hq
    obtain ⟨a, c, h1, h2, h3⟩ := hq
    refine ⟨a, c, h1, h2, fun j x hj => ?_⟩
    obtain ⟨b, o, e1, e2, e3, e4⟩ := h3 j x hj
    refine ⟨b, o, e1, Nat.lt_of_lt_of_le e2 hgrow.size, ?_, (World.cell?_of_block (w := W2) (w' := w3) (a := ⟨b, o + j, none⟩) (hgrow.block b e2 e3)).trans e4⟩
    rcases hat with e | e
    · rw [← e]; exact e3
    · intro e'; injection e' with e'; omega
  refine ⟨by rw [List.length_append, cellsO_snoc]; exact hown, fun q hq => ?_⟩
  have hq' : RdAp W2 q.2 q.1.data v.ownBlock := by
    rcases List.mem_append.1 hq with hq | hq
    · exact h.data q hq
    · obtain rfl : q = p := by simpa using hq
      exact hp
  exact hk q hq'
/-- The calls of a text, as an answer. -/
def ScrRes (r : List Opr × Int × Int) (w : World) (e : Ending) (w' : World) : Prop :=
  ∃ v, e = .returned (.tuple #[v, .int .i64 r.2.1, .int .i64 r.2.2]) ∧ RdO w' v r.1 ∧ Below w.heap.size w w'
theorem scrRes_mk {r : List Opr × Int × Int} {xs : List Opr} {n m : Int} {v : Value} {w : World} {e : Ending} {w' : World} (h : r = (xs, n, m)) (he : e = .returned (.tuple #[v, .int .i64 n, .int .i64 m])) (hr : RdO w' v xs) (hb : Below w.heap.size w w') : ScrRes r w e w' := by
  subst h; exact ⟨v, he, hr, hb⟩
theorem nl_last (t : List UInt8) (h : t ≠ []) : Tr.nl t = decide (t.getD (t.length - 1) 0 = 10) := by
  obtain ⟨a, c, rfl⟩ : ∃ a c, t = a ++ [c] := ⟨t.dropLast, t.getLast h, (List.dropLast_concat_getLast h).symm⟩
  have e : (a ++ [c]).getD ((a ++ [c]).length - 1) 0 = c := by simp
  rw [e, Bool.eq_iff_iff]
  unfold Tr.nl
  rw [List.isSuffixOf_iff_suffix, decide_eq_true_eq]
  constructor
  · rintro ⟨x, hx⟩
    have := congrArg List.getLast? hx
    simp at this
    exact this.symm
  · rintro rfl; exact ⟨a, rfl⟩
end Go.Proofs.YtpoongljokbgcaaDoor
