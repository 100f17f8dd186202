/- What stands between two steps of the reference's Parse. -/
import Derived.Test.YtpoongljokbgcaaDoorBo
import Derived.Test.YtpoongljokbgcaaDoorBe
import Derived.Test.YtpoongljokbgcaaDoorBf
import Derived.Test.YtpoongljokbgcaaDoorBg
import Derived.Test.YtpoongljokbgcaaDoorBh
import Derived.Test.YtpoongljokbgcaaDoorBc
namespace Go.Proofs.YtpoongljokbgcaaDoor
open Go.RowKit
/-- A slice of texts that lies ahead of block b. -/
def RdW (W : World) (v : Value) (ws : List (List UInt8)) (b : Nat) : Prop :=
  ∃ a cap, v = .slice a ws.length cap ∧ ws.length ≤ cap ∧ cap ≤ maxLen ∧ ∀ j x, ws[j]? = some x → ∃ b' o, a = some ⟨b', o, none⟩ ∧ b' < W.heap.size ∧ W.cell? ⟨b', o + j, none⟩ = some (strV x) ∧ b' < b
theorem RdW.below {W W' : World} {v : Value} {ws : List (List UInt8)} {b : Nat} (h : RdW W v ws b) (hb : Below W.heap.size W W') : RdW W' v ws b := by
  obtain ⟨a, cap, h1, h2, hm, h3⟩ := h
  refine ⟨a, cap, h1, h2, hm, fun j x hj => ?_⟩
  obtain ⟨b', o, e1, e2, e3, e4⟩ := h3 j x hj
  exact ⟨b', o, e1, Nat.lt_of_lt_of_le e2 hb.size, by rw [hb.cell (p := ⟨b', o + j, none⟩) e2]; exact e3, e4⟩
theorem RdW.setCell {W : World} {v : Value} {ws : List (List UInt8)} {b : Nat} (h : RdW W v ws b) (i : Nat) (u : Value) : RdW (W.setCell ⟨b, i, none⟩ u) v ws b := by
  obtain ⟨a, cap, h1, h2, hm, h3⟩ := h
  refine ⟨a, cap, h1, h2, hm, fun j x hj => ?_⟩
  obtain ⟨b', o, e1, e2, e3, e4⟩ := h3 j x hj
  refine ⟨b', o, e1, by simpa [World.setCell] using e2, ?_, e4⟩
  rw [World.cell?_setCell_other _ _ _ _ (by intro h; have h' := congrArg Addr.block h; simp at h'; omega)]
  exact e3
theorem RdW.cons {W : World} {v : Value} {x : List UInt8} {r : List (List UInt8)} {b : Nat} (h : RdW W v (x :: r) b) :
    ∃ b' o cap, v = .slice (some ⟨b', o, none⟩) (r.length + 1) cap ∧ r.length + 1 ≤ cap ∧ cap ≤ 9223372036854775807 ∧ b' < b ∧ W.cell? ⟨b', o, none⟩ = some (.string (S x)) ∧
      RdW W (.slice (if cap = 1 then some ⟨b', o, none⟩ else some ⟨b', o + 1, none⟩) r.length (cap - 1)) r b := by
  obtain ⟨a, cap, rfl, h2, hm, h3⟩ := h
  obtain ⟨b', o, rfl, e2, e3, e4⟩ := h3 0 x rfl
  rw [List.length_cons] at h2
  refine ⟨b', o, cap, rfl, h2, hm, e4, e3, ?_⟩
  by_cases hc : cap = 1
  · obtain rfl : r = [] := List.eq_nil_of_length_eq_zero (by omega)
    rw [if_pos hc]
    exact ⟨_, cap - 1, rfl, by simp, by omega, fun j y hj => by simp at hj⟩
  · rw [if_neg hc]
    refine ⟨_, cap - 1, rfl, by omega, by omega, fun j y hj => ?_⟩
    obtain ⟨b2, o2, e5, e6, e7, e8⟩ := h3 (j + 1) y (by simpa using hj)
    cases e5
    exact ⟨b', o + 1, rfl, e6, by rw [show o + 1 + j = o + (j + 1) by omega]; exact e7, e8⟩
theorem RdW.form {W : World} {v : Value} {ws : List (List UInt8)} {b : Nat} (h : RdW W v ws b) : ∃ a cap, v = .slice a ws.length cap := by
  obtain ⟨a, cap, h1, _⟩ := h; exact ⟨a, cap, h1⟩
theorem RdW.of_own {W : World} {B b : Nat} {v : Value} {ws : List (List UInt8)} (h : W.ownsRow B 9 1 v ws.length (ws.map strV)) (hb : W.heap.size ≤ b) : RdW W v ws b := by
  have hr := Rd.of_own (enc := strV) h
  obtain ⟨a, cap, h1, h2, h3⟩ := hr
  have hm : cap ≤ maxLen := by
    obtain ⟨_, ⟨rfl, h0⟩ | ⟨g, cap', cur, rfl, hg, hh, hc, hm, _⟩⟩ := h
    · simp only [Value.slice.injEq] at h1; omega
    · simp only [Value.slice.injEq] at h1; omega
  exact ⟨a, cap, h1, h2, hm, fun j x hj => by obtain ⟨b', o, e1, e2, e3⟩ := h3 j x hj; exact ⟨b', o, e1, e2, e3, by omega⟩⟩
/-- Between two steps: the words that are left, whether all was well, the call so far in block b; block h is the result's. -/
structure PSt (w : World) (h b : Nat) (s : Tr.St) (v ok : Value) (W : World) : Prop where
  ws : RdW W v s.ws b
  ok : ok = .bool s.ok
  box : ∃ ad cp, Box W b 44 (aggO s.op ad cp) ∧ RdB W (.slice ad s.op.data.length cp) s.op.data
  res : Box W h 44 zero44
  bel : Below w.heap.size w W
theorem PSt.below {w : World} {h b : Nat} {s : Tr.St} {v ok : Value} {W W' : World} (p : PSt w h b s v ok W) (hb : Below W.heap.size W W') : PSt w h b s v ok W' :=
  ⟨p.ws.below hb, p.ok, by obtain ⟨ad, cp, x, r⟩ := p.box; exact ⟨ad, cp, x.below hb, r.below hb⟩, p.res.below hb, p.bel.trans (hb.mono p.bel.size)⟩
theorem unquoter_pair (l : List UInt8) (w : World) (hl : 3 * l.length ≤ 140737488355328) :
    Calls Tryd.prog 11 #[.string (S l)] w (PairText ((Tr.unq l).getD []) (if (Tr.unq l).isSome then 0 else 270) w) :=
  (unquoter_any l w hl).mono fun e w' ⟨he, hb⟩ => ⟨by rw [he]; cases Tr.unq l <;> rfl, hb⟩
theorem step_no {s : Tr.St} {c : Bool} {f : Opr → List UInt8 → Opr × Bool} (h : (s.ok && c && !s.ws.isEmpty) = false) : s.step c f = s := by
  unfold Tr.St.step
  split
  · rename_i h1
    rw [h1] at h
    cases hw : s.ws with
    | nil => rfl
    | cons x r => rw [hw] at h; simp at h
  · rfl
theorem step_yes {s : Tr.St} {c : Bool} {f : Opr → List UInt8 → Opr × Bool} {x : List UInt8} {r : List (List UInt8)} (h : s.ok = true) (hc : c = true) (hw : s.ws = x :: r) : s.step c f = ⟨(f s.op x).1, r, (f s.op x).2⟩ := by
  unfold Tr.St.step
  rw [h, hc, hw]; rfl
/-- one cell of the call's block laid anew, its data where they were -/
theorem box_data {W : World} {b : Nat} {o : Opr} {ad : Option Addr} {cp : Nat} (x : Box W b 44 (aggO o ad cp)) (r : RdB W (.slice ad o.data.length cp) o.data) : RdX W (.slice ad o.data.length cp) o.data b :=
  rdX_of r x (noU8_agg o ad cp)
/-- The answer of the reference's Parse. -/
def OpRd (r : Option Opr) (w : World) (e : Ending) (w' : World) : Prop :=
  ∃ dv, e = .returned (.tuple #[opV (r.getD Tr.zero) dv, .int .i64 (if r.isSome then 0 else 270)]) ∧ RdB w' dv (r.getD Tr.zero).data ∧ Below w.heap.size w w'
theorem st_kind (s : Tr.St) (c : Bool) (f : Opr → List UInt8 → Opr × Bool) (hf : ∀ o x, (f o x).1.kind = o.kind) : (s.step c f).op.kind = s.op.kind := by
  unfold Tr.St.step
  split
  · split
    · rfl
    · exact hf _ _
  · rfl
theorem st_ws (s : Tr.St) (c : Bool) (f : Opr → List UInt8 → Opr × Bool) : ∀ x ∈ (s.step c f).ws, x ∈ s.ws := by
  unfold Tr.St.step
  split
  · split
    · rename_i h; exact fun x hx => hx
    · rename_i y r h
      intro x hx
      rw [h]
      exact List.mem_cons_of_mem _ hx
  · exact fun x hx => hx
theorem PSt.put {w : World} {h b : Nat} {s : Tr.St} {v ok : Value} {W : World} (p : PSt w h b s v ok W) (hb : w.heap.size ≤ b) (hne : b ≠ h) (i : Nat) (u : Value) (s' : Tr.St) (v' : Value) (hv : RdW W v' s'.ws b)
    (hx : ∀ ad cp, Box W b 44 (aggO s.op ad cp) → RdB W (.slice ad s.op.data.length cp) s.op.data → ∃ ad' cp', Box (W.setCell ⟨b, i, none⟩ u) b 44 (aggO s'.op ad' cp') ∧ RdB (W.setCell ⟨b, i, none⟩ u) (.slice ad' s'.op.data.length cp') s'.op.data) :
    PSt w h b s' v' (.bool s'.ok) (W.setCell ⟨b, i, none⟩ u) :=
  ⟨hv.setCell i u, rfl, by obtain ⟨ad, cp, x, r⟩ := p.box; exact hx ad cp x r, p.res.setFar ⟨b, i, none⟩ u hne, p.bel.setCell (p := ⟨b, i, none⟩) hb u⟩
namespace Tr
structure St.short (N : Nat) (s : St) : Prop where
  path : s.op.path.length ≤ N
  dest : s.op.dest.length ≤ N
  ws : ∀ x ∈ s.ws, x.length ≤ N
theorem step_short {N : Nat} {s : St} {c : Bool} {f : Opr → List UInt8 → Opr × Bool} (h : s.short N) (hf : ∀ x, x.length ≤ N → (f s.op x).1.path.length ≤ N ∧ (f s.op x).1.dest.length ≤ N) : (s.step c f).short N := by
  unfold St.step
  split
  · split
    · exact h
    · rename_i x r hw
      have := hf x (h.ws x (by rw [hw]; exact List.mem_cons_self ..))
      exact ⟨this.1, this.2, fun y hy => h.ws y (by rw [hw]; exact List.mem_cons_of_mem _ hy)⟩
  · exact h
theorem all_short (line : List UInt8) : (stAll line).short line.length := by
  unfold stAll
  have h0 : (st0 line).short line.length := ⟨Nat.zero_le _, Nat.zero_le _, fun x hx => spl_mem 32 line x (List.mem_of_mem_drop hx)⟩
  have h1 : (sPath (st0 line)).short line.length := step_short h0 fun x hx => ⟨Nat.le_trans (unq_len x) hx, h0.dest⟩
  have h2 : (sTo (sPath (st0 line))).short line.length := step_short h1 fun x hx => ⟨h1.path, Nat.le_trans (unq_len x) hx⟩
  have h3 : (sOff (sTo (sPath (st0 line)))).short line.length := step_short h2 fun x hx => ⟨h2.path, h2.dest⟩
  have h4 : (sLen (sOff (sTo (sPath (st0 line))))).short line.length := step_short h3 fun x hx => ⟨h3.path, h3.dest⟩
  exact step_short h4 fun x hx => ⟨h4.path, h4.dest⟩
end Tr
theorem res26 {W : World} {b : Nat} {v0 v1 v2 v3 v4 v5 : Value} (h : Box W b 44 #[v0, v1, v2, v3, v4, v5]) {tmps : Array Value} {n : Int} (h2 : tmps.getD 2 undef = .pointer (some ⟨b, 0, none⟩)) (h3 : tmps.getD 3 undef = .int .i64 n) :
    (results Tryd.f26 tmps).run Tryd.prog W = .ok (.tuple #[.agg #[v0, v1, v2, v3, v4, v5], .int .i64 n]) W := by
  have d0 := h.get 0 _ rfl
  have d1 := h.get 1 _ rfl
  have d2 := h.get 2 _ rfl
  have d3 := h.get 3 _ rfl
  have d4 := h.get 4 _ rfl
  have d5 := h.get 5 _ rfl
  simp at h2 h3
  simp [results, Tryd.results26, go_sem, h2, h3, d0, d1, d2, d3, d4, d5]
theorem opRd_none {r : Option Opr} {w : World} {e : Ending} {w' : World} (h : r = none) (he : e = .returned (.tuple #[.agg #[.int .i64 0, .string ⟨#[]⟩, .string ⟨#[]⟩, .int .i64 0, .int .i64 0, .slice none 0 0], .int .i64 270])) (hb : Below w.heap.size w w') : OpRd r w e w' := by
  subst h; exact ⟨_, he, Rd.nil _ _, hb⟩
theorem opRd_some {r : Option Opr} {o : Opr} {ad : Option Addr} {cp : Nat} {w : World} {e : Ending} {w' : World} (h : r = some o) (he : e = .returned (.tuple #[.agg (aggO o ad cp), .int .i64 0])) (hr : RdB w' (.slice ad o.data.length cp) o.data) (hb : Below w.heap.size w w') : OpRd r w e w' := by
  subst h; exact ⟨_, he, hr, hb⟩
end Go.Proofs.YtpoongljokbgcaaDoor
