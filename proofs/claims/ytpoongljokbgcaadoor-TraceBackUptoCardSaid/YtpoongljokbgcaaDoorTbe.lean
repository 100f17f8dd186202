import Derived.Test.YtpoongljokbgcaaDoorTbd
namespace Go.Proofs.YtpoongljokbgcaaDoor
open Go.RowKit
namespace Tr
def kindN (x : List UInt8) : Nat → Int
  | 0 => 0
  | n + 1 => if word (n + 1) = x then ((n + 1 : Nat) : Int) else kindN x n
def kindOf (x : List UInt8) : Int := kindN x 13
/-- how many fields a kind has -/
def nf (k : Int) : Nat := if k = 3 ∨ k = 6 then 2 else if k = 7 then 3 else if k = 8 then 2 else if k = 9 then 3 else if k = 13 then 0 else 1
def zero : Opr := ⟨0, [], [], 0, 0, []⟩
def txt (ws : List (List UInt8)) (i : Nat) : List UInt8 := (unq (ws.getD i [])).getD []
/-- the call that a line's words say, whether the line is its own or not -/
def build (ws : List (List UInt8)) : Opr :=
  let k := kindOf (ws.getD 0 [])
  { kind := k, path := if k = 13 then [] else txt ws 1, dest := if k = 3 ∨ k = 6 then txt ws 2 else [],
    off := if k = 7 ∨ k = 9 then (pnum (ws.getD 2 [])).1 else 0,
    len := if k = 8 then (pnum (ws.getD 2 [])).1 else if k = 9 then (pnum (ws.getD 3 [])).1 else 0,
    data := if k = 7 then (unhexesX (ws.getD 3 [])).getD [] else [] }
def parse (line : List UInt8) : Option Opr :=
  let ws := spl 32 line
  if kindOf (ws.getD 0 []) = 0 ∨ ws.length ≠ 1 + nf (kindOf (ws.getD 0 [])) then none
  else if print (build ws) = (line, 0) then some (build ws) else none
end Tr
theorem spl_len (c : UInt8) (l : List UInt8) : (Tr.spl c l).length ≤ l.length + 1 := by
  induction l with
  | nil => simp [Tr.spl]
  | cons b l ih =>
    unfold Tr.spl
    split
    · simp; omega
    · split
      · rename_i h; rw [h] at ih; simp at ih ⊢; omega
      · simp
theorem kindN_range (x : List UInt8) (n : Nat) : 0 ≤ Tr.kindN x n ∧ Tr.kindN x n ≤ n := by
  induction n with
  | zero => exact ⟨Int.le_refl _, Int.le_refl _⟩
  | succ n ih => unfold Tr.kindN; split <;> omega
/-- A block of cells that is known whole. -/
def Box (W : World) (b : Nat) (t : TypeId) (vs : Array Value) : Prop := W.heap[b]? = some (.cells vs t (0, 0))
theorem Box.lt {W : World} {b : Nat} {t : TypeId} {vs : Array Value} (h : Box W b t vs) : b < W.heap.size := (Array.getElem?_eq_some_iff.1 h).1
theorem Box.cell {W : World} {b : Nat} {t : TypeId} {vs : Array Value} (h : Box W b t vs) (j : Nat) : W.cell? ⟨b, j, none⟩ = vs[j]? := by
  unfold Box at h; unfold World.cell?; rw [h]; rfl
theorem Box.get {W : World} {b : Nat} {t : TypeId} {vs : Array Value} (h : Box W b t vs) (j : Nat) (v : Value) (hv : vs[j]? = some v) : W.cell? ⟨b, j, none⟩ = some v := (h.cell j).trans hv
theorem Box.frozen {W : World} {b : Nat} {t : TypeId} {vs : Array Value} (h : Box W b t vs) (j : Nat) : W.frozen? ⟨b, j, none⟩ = false := by
  unfold Box at h; unfold World.frozen?; rw [h]; simp
theorem Box.below {W W' : World} {b : Nat} {t : TypeId} {vs : Array Value} (h : Box W b t vs) (hb : Below W.heap.size W W') : Box W' b t vs := (hb.block b h.lt).trans h
theorem Box.set {W : World} {b : Nat} {t : TypeId} {vs : Array Value} (h : Box W b t vs) (j : Nat) (v : Value) : Box (W.setCell ⟨b, j, none⟩ v) b t (vs.setIfInBounds j v) := by
  unfold Box at *; unfold World.setCell; simp [Array.getElem?_modify, h]
theorem Box.new (W : World) (t : TypeId) (vs : Array Value) : Box (W.alloc (.cells vs t)) W.heap.size t vs := heap_alloc_new W _
theorem Box.alloc {W : World} {b : Nat} {t : TypeId} {vs : Array Value} (h : Box W b t vs) (o : Obj) : Box (W.alloc o) b t vs := h.below ((Below.refl _ _).alloc (Nat.le_refl _) _)
theorem Box.setFar {W : World} {b : Nat} {t : TypeId} {vs : Array Value} (h : Box W b t vs) (a : Addr) (v : Value) (hne : a.block ≠ b) : Box (W.setCell a v) b t vs := by
  unfold Box at *; unfold World.setCell; simp [Array.getElem?_modify, hne, h]
theorem put6 {W : World} {b : Nat} {t : TypeId} {a0 a1 a2 a3 a4 a5 : Value} (h : Box W b t #[a0, a1, a2, a3, a4, a5]) (v0 v1 v2 v3 v4 v5 : Value) {B : Nat} {u : World} (hB : Below B u W) (hle : B ≤ b) :
    Box ((((((W.setCell ⟨b, 0, none⟩ v0).setCell ⟨b, 1, none⟩ v1).setCell ⟨b, 2, none⟩ v2).setCell ⟨b, 3, none⟩ v3).setCell ⟨b, 4, none⟩ v4).setCell ⟨b, 5, none⟩ v5) b t #[v0, v1, v2, v3, v4, v5] ∧
    Below B u ((((((W.setCell ⟨b, 0, none⟩ v0).setCell ⟨b, 1, none⟩ v1).setCell ⟨b, 2, none⟩ v2).setCell ⟨b, 3, none⟩ v3).setCell ⟨b, 4, none⟩ v4).setCell ⟨b, 5, none⟩ v5) :=
  ⟨by simpa using (((((h.set 0 v0).set 1 v1).set 2 v2).set 3 v3).set 4 v4).set 5 v5,
   (((((hB.setCell (p := ⟨b, 0, none⟩) hle _).setCell (p := ⟨b, 1, none⟩) hle _).setCell (p := ⟨b, 2, none⟩) hle _).setCell (p := ⟨b, 3, none⟩) hle _).setCell (p := ⟨b, 4, none⟩) hle _).setCell (p := ⟨b, 5, none⟩) hle _⟩
theorem res18 {W : World} {b : Nat} {v0 v1 v2 v3 v4 v5 : Value} (h : Box W b 44 #[v0, v1, v2, v3, v4, v5]) {tmps : Array Value} {n : Int} (h2 : tmps.getD 2 undef = .pointer (some ⟨b, 0, none⟩)) (h3 : tmps.getD 3 undef = .int .i64 n) :
    (results Tryd.f18 tmps).run Tryd.prog W = .ok (.tuple #[.agg #[v0, v1, v2, v3, v4, v5], .int .i64 n]) W := by
  have d0 := h.get 0 _ rfl
  have d1 := h.get 1 _ rfl
  have d2 := h.get 2 _ rfl
  have d3 := h.get 3 _ rfl
  have d4 := h.get 4 _ rfl
  have d5 := h.get 5 _ rfl
  simp at h2 h3
  simp [results, Tryd.results18, go_sem, h2, h3, d0, d1, d2, d3, d4, d5]
theorem in64_zero : in64 0 := ⟨by decide, by decide⟩
theorem nf_le (k : Int) : Tr.nf k ≤ 3 := by
  unfold Tr.nf
  split
  · omega
  split
  · omega
  split
  · omega
  split
  · omega
  split <;> omega
theorem fields_nf (k : Int) : (Tr.fields ⟨k, [], [], 0, 0, []⟩).length = Tr.nf k := by
  unfold Tr.fields Tr.nf
  split
  · simp
  split
  · simp
  split
  · simp
  split
  · simp
  split
  · simp
  · simp
theorem tx_get {W : World} {b : Nat} {ws : List (List UInt8)} (h : Box W b 9 (ws.map strV).toArray) (i : Nat) (hi : i < ws.length) : W.cell? ⟨b, i, none⟩ = some (.string (S (ws.getD i []))) := by
  rw [h.cell]; simp [hi, strV]
theorem getD_len (c : UInt8) (s : List UInt8) (i : Nat) : ((Tr.spl c s).getD i []).length ≤ s.length := by
  by_cases h : i < (Tr.spl c s).length
  · rw [List.getD_eq_getElem?_getD, List.getElem?_eq_getElem h]
    exact Tr.spl_mem c s _ (List.getElem_mem h)
  · rw [List.getD_eq_getElem?_getD, List.getElem?_eq_none (by omega)]; simp
theorem parse_out {s x : List UInt8} {ws : List (List UInt8)} {k : Int} (hws : Tr.spl 32 s = ws) (hx0 : ws.getD 0 [] = x) (hk : Tr.kindN x 13 = k) (hk1 : 1 ≤ k) (hlen : ws.length = 1 + Tr.nf k) :
    ∀ o, Tr.build ws = o → ((Tr.print o).1 = s → (Tr.print o).2 = 0 → Tr.parse s = some o) ∧ (¬ ((Tr.print o).1 = s ∧ (Tr.print o).2 = 0) → Tr.parse s = none) := by
  intro o ho
  have hk' : Tr.kindOf x = k := hk
  have hn : ¬ (k = 0 ∨ ws.length ≠ 1 + Tr.nf k) := by intro h; rcases h with h | h <;> omega
  have hp : Tr.parse s = if Tr.print o = (s, 0) then some o else none := by
    unfold Tr.parse; simp only [hws, hx0, hk', ho]; rw [if_neg hn]
  refine ⟨fun h1 h2 => ?_, fun h => ?_⟩
  · rw [hp, if_pos (Prod.ext h1 h2)]
  · rw [hp, if_neg (fun e => h ⟨by rw [e], by rw [e]⟩)]
theorem own_setFar {W : World} {base : Nat} {e : TypeId} {size : Nat} {v : Value} {n : Nat} {xs : List Value} {a : Addr} (h : W.ownsRow base e size v n xs) (ha : a.block < base) (u : Value) : (W.setCell a u).ownsRow base e size v n xs :=
  ownsRow_setCell_below h ha u
theorem own_base {W : World} {base base' : Nat} {e : TypeId} {size : Nat} {v : Value} {n : Nat} {xs : List Value} (h : W.ownsRow base e size v n xs) (hb : base' ≤ base) : W.ownsRow base' e size v n xs := by
  obtain ⟨h1, h2 | ⟨g, cap, cur, hv, h3, h4⟩⟩ := h
  · exact ⟨h1, .inl h2⟩
  · exact ⟨h1, .inr ⟨g, cap, cur, hv, Nat.le_trans hb h3, h4⟩⟩
theorem own_put6 {W : World} {b base : Nat} {e : TypeId} {size : Nat} {v : Value} {n : Nat} {xs : List Value} (h : W.ownsRow base e size v n xs) (hb : b < base) (v0 v1 v2 v3 v4 v5 : Value) :
    ((((((W.setCell ⟨b, 0, none⟩ v0).setCell ⟨b, 1, none⟩ v1).setCell ⟨b, 2, none⟩ v2).setCell ⟨b, 3, none⟩ v3).setCell ⟨b, 4, none⟩ v4).setCell ⟨b, 5, none⟩ v5).ownsRow base e size v n xs :=
  own_setFar (a := ⟨b, 5, none⟩) (own_setFar (a := ⟨b, 4, none⟩) (own_setFar (a := ⟨b, 3, none⟩) (own_setFar (a := ⟨b, 2, none⟩) (own_setFar (a := ⟨b, 1, none⟩) (own_setFar (a := ⟨b, 0, none⟩) h hb _) hb _) hb _) hb _) hb _) hb _
/-- A parsed call. -/
def OpRes (r : Option Opr) (w : World) (e : Ending) (w' : World) : Prop :=
  ∃ dv, e = .returned (.tuple #[.agg #[.int .i64 (r.getD Tr.zero).kind, .string (S (r.getD Tr.zero).path), .string (S (r.getD Tr.zero).dest), .int .i64 (r.getD Tr.zero).off, .int .i64 (r.getD Tr.zero).len, dv], .int .i64 (if r.isSome then 0 else 270)]) ∧
    w'.ownsRow w.heap.size 5 1 dv (r.getD Tr.zero).data.length (Lib.byteCells (r.getD Tr.zero).data) ∧ Below w.heap.size w w'
set_option maxRecDepth 100000 in
set_option maxHeartbeats 4000000 in
theorem parse_any (s : List UInt8) (w : World) (hG : Gl w) (hs : s.length ≤ 1000000) :
    Calls Tryd.prog 18 #[.string (S s)] w (OpRes (Tr.parse s) w) := by
  obtain ⟨ws, hws⟩ : ∃ ws, Tr.spl 32 s = ws := ⟨_, rfl⟩
  have hne : ws ≠ [] := by rw [← hws]; exact Tr.spl_ne 32 s
  obtain ⟨x, ws', hxw⟩ : ∃ x ws', ws = x :: ws' := by
    cases ws with
    | nil => exact (hne rfl).elim
    | cons x ws' => exact ⟨x, ws', rfl⟩
  replace hG := Lib.hid hG
  have hx0 : ws.getD 0 [] = x := by rw [hxw]; rfl
  have hwl : 1 ≤ ws.length := by rw [hxw]; simp
  have hwm : ws.length ≤ 1000001 := by rw [← hws]; exact Nat.le_trans (spl_len 32 s) (by omega)
  replace hxw := Lib.hid hxw
  have hwn : 0 < ws.length := by omega
  clear hne
  go_enter Tryd.func18, Tryd.ntmps18
  go_wp2_with fail
  refine (split_S 32 s _ (hG.out.below ((Below.refl _ _).alloc (Nat.le_refl _) _)) (by omega)).mono ?_
  rintro e w1 ⟨rfl, rfl⟩
  rw [hws]
  go_wp2_with fail
  have hW0 : ∃ W0, (((w.alloc (.cells #[.int .i64 0, .string ⟨#[]⟩, .string ⟨#[]⟩, .int .i64 0, .int .i64 0, .slice none 0 0] 44)).alloc (.cells (ws.map strV).toArray 9)).alloc (.cells #[.int .i64 0, .string ⟨#[]⟩, .string ⟨#[]⟩, .int .i64 0, .int .i64 0, .slice none 0 0] 44)) = W0 ∧
      Box W0 (w.heap.size + 1 + 1) 44 #[.int .i64 0, .string ⟨#[]⟩, .string ⟨#[]⟩, .int .i64 0, .int .i64 0, .slice none 0 0] ∧ Box W0 (w.heap.size + 1) 9 (ws.map strV).toArray ∧ Box W0 w.heap.size 44 #[.int .i64 0, .string ⟨#[]⟩, .string ⟨#[]⟩, .int .i64 0, .int .i64 0, .slice none 0 0] ∧ Below w.heap.size w W0 :=
    ⟨_, rfl, by simpa using Box.new ((w.alloc (.cells #[.int .i64 0, .string ⟨#[]⟩, .string ⟨#[]⟩, .int .i64 0, .int .i64 0, .slice none 0 0] 44)).alloc (.cells (ws.map strV).toArray 9)) 44 _,
      by have h := (Box.new (w.alloc (.cells #[.int .i64 0, .string ⟨#[]⟩, .string ⟨#[]⟩, .int .i64 0, .int .i64 0, .slice none 0 0] 44)) 9 (ws.map strV).toArray); exact (by simpa using h : Box _ _ _ _).alloc _,
      ((Box.new w 44 _).alloc _).alloc _, (((Below.refl _ _).alloc (Nat.le_refl _) _).alloc (by simp) _).alloc (by simp; omega) _⟩
  obtain ⟨W0, hW0e, hbx, htx, hbr, hW0⟩ := hW0
  rw [hW0e]
  clear hW0e
  obtain ⟨b2, hb2⟩ : ∃ b, w.heap.size = b := ⟨_, rfl⟩
  rw [hb2] at hbx htx hbr ⊢
  go_loopw [6] (fun k wr => ∃ n : Nat, n ≤ 13 ∧ k = .int .i64 (n + 1) ∧ Box wr (b2 + 1 + 1) 44 #[.int .i64 (Tr.kindN x n), .string ⟨#[]⟩, .string ⟨#[]⟩, .int .i64 0, .int .i64 0, .slice none 0 0] ∧ Box wr (b2 + 1) 9 (ws.map strV).toArray ∧ Box wr b2 44 #[.int .i64 0, .string ⟨#[]⟩, .string ⟨#[]⟩, .int .i64 0, .int .i64 0, .slice none 0 0] ∧ Below w.heap.size w wr)
    (fun k _ => 14 - (intOf k).toNat)
  case atStart => exact ⟨0, by omega, rfl, hbx, htx, hbr, hW0⟩
  case round =>
    clear hbx htx hbr hW0
    obtain ⟨n, hn, rfl, hbx, htx, hbr, hW⟩ := hrel
    have hlt5 := hbx.lt
    have hltt := htx.lt
    have hlt2 := hbr.lt
    have hGw := Lib.hid (hG.out.below hW)
    by_cases hn13 : n < 13
    · obtain ⟨y, hy⟩ : ∃ y, Tr.word ((n : Int) + 1) = y := ⟨_, rfl⟩
      have hyne : (y == []) = false := by
        rw [← hy]; simp only [beq_eq_false_iff_ne, ne_eq, word_nil]; omega
      have hkn := Lib.hid (show Tr.kindN x (n + 1) = if y = x then ((n : Int) + 1) else Tr.kindN x n by
        rw [Tr.kindN, hy]; rfl)
      replace hy := Lib.hid hy
      go_wp2_with fail
      refine (word_any _ _ hGw.out (by omega) (by omega)).mono ?_
      rw [hy.out]
      rintro e w2 ⟨rfl, hb⟩
      have hbx1 := hbx.below hb
      have htx1 := htx.below hb
      have hbr1 := hbr.below hb
      have hW1 := hW.trans (hb.mono hW.size)
      have hsz := hb.size
      have hG1 := Lib.hid (hG.out.below hW1)
      clear hbx htx hbr hW
      have ct : w2.cell? ⟨b2 + 1, 0, none⟩ = some (.string (S x)) := by rw [htx1.cell]; rw [hxw.out]; rfl
      by_cases hyx : y = x
      · have hyx' : (y == x) = true := by simpa using hyx
        rw [if_pos hyx] at hkn
        replace hyx := Lib.hid hyx
        go_wp2_with fail
        go_region_held3 (fun w' => w'.cell? ⟨b2 + 1, 0, none⟩ = some (.string (S x)) ∧ Below w2.heap.size w2 w' ∧ w2.heap.size ≤ w'.heap.size)
          (first | (go_split_ands; refine ⟨?_, ?_, ?_⟩ <;> first | assumption | (rw [hb1.cell (by simp; omega)]; assumption) | exact (Below.refl _ _).drew | exact Below.drew (by assumption) | exact Below.trans (by assumption) (hb1.mono (by omega)) | (have := hb1.size; omega) | exact Nat.le_refl _) | go_keep)
          (first | (go_at_call 52; refine (word_any _ _ ?_ (by omega) (by omega)).mono ?_; exact hG1.out; rw [hy.out]; rintro e w3 ⟨rfl, hb1⟩))
        all_goals
          obtain ⟨_, hB3, hs3⟩ := ‹_ ∧ _ ∧ _›
          have hbx2 := hbx1.below hB3
          have htx2 := htx1.below hB3
          have hbr2 := hbr1.below hB3
          have hW2 := hW1.trans (hB3.mono hW1.size)
          clear hB3
          have c50 := hbx2.get 0 _ rfl
          have f50 := hbx2.frozen 0
          go_wp2_with fail
          go_roundw
          case rel => exact ⟨n + 1, by omega, by go_num, by rw [hkn.out]; simpa using hbx2.set 0 _, htx2.setFar _ _ (by show b2 + 1 + 1 ≠ b2 + 1; omega), hbr2.setFar _ _ (by show b2 + 1 + 1 ≠ b2; omega), hW2.setCell (p := ⟨b2 + 1 + 1, 0, none⟩) (by show w.heap.size ≤ b2 + 1 + 1; omega) _⟩
          case measure => simp [intOf]; omega
      · have hyx' : (y == x) = false := by simpa using hyx
        rw [if_neg hyx] at hkn
        replace hyx := Lib.hid hyx
        go_wp2_with fail
        go_region_held3 (fun w' => w'.cell? ⟨b2 + 1, 0, none⟩ = some (.string (S x)) ∧ Below w2.heap.size w2 w' ∧ w2.heap.size ≤ w'.heap.size)
          (first | (go_split_ands; refine ⟨?_, ?_, ?_⟩ <;> first | assumption | (rw [hb1.cell (by simp; omega)]; assumption) | exact (Below.refl _ _).drew | exact Below.drew (by assumption) | exact Below.trans (by assumption) (hb1.mono (by omega)) | (have := hb1.size; omega) | exact Nat.le_refl _) | go_keep)
          (first | (go_at_call 52; refine (word_any _ _ ?_ (by omega) (by omega)).mono ?_; exact hG1.out; rw [hy.out]; rintro e w3 ⟨rfl, hb1⟩))
        all_goals
          obtain ⟨_, hB3, hs3⟩ := ‹_ ∧ _ ∧ _›
          have hbx2 := hbx1.below hB3
          have htx2 := htx1.below hB3
          have hbr2 := hbr1.below hB3
          have hW2 := hW1.trans (hB3.mono hW1.size)
          clear hB3
          have c50 := hbx2.get 0 _ rfl
          have f50 := hbx2.frozen 0
          go_wp2_with fail
          go_roundw
          case rel => exact ⟨n + 1, by omega, by go_num, by rw [hkn.out]; exact hbx2, htx2, hbr2, hW2⟩
          case measure => simp [intOf]; omega
    · obtain rfl : n = 13 := by omega
      have hw14 := Lib.hid (show Tr.word 14 = [] by rfl)
      go_wp2_with fail
      refine (word_any _ _ hGw.out (by omega) (by omega)).mono ?_
      rw [hw14.out]
      rintro e w2 ⟨rfl, hb⟩
      have hbx1 := hbx.below hb
      have htx1 := htx.below hb
      have hbr1 := hbr.below hb
      have hW1 := hW.trans (hb.mono hW.size)
      have hsz := hb.size
      have hG1 := Lib.hid (hG.out.below hW1)
      clear hbx htx hbr hW hb
      obtain ⟨k, hk⟩ : ∃ k, Tr.kindN x 13 = k := ⟨_, rfl⟩
      rw [hk] at hbx1
      have hkr : 0 ≤ k ∧ k ≤ 13 := by rw [← hk]; exact kindN_range x 13
      have hpz := Lib.hid (show k = 0 → Tr.parse s = none by intro h; unfold Tr.parse; simp only [hws, hx0]; rw [if_pos (.inl (by rw [← h, ← hk]; rfl))])
      have hpn := Lib.hid (show ws.length ≠ 1 + Tr.nf k → Tr.parse s = none by intro h; unfold Tr.parse; simp only [hws, hx0]; rw [if_pos (.inr (by rw [show Tr.kindOf x = k from hk]; exact h))])
      replace hk := Lib.hid hk
      have c0 := hbx1.get 0 _ rfl
      have c1 := hbx1.get 1 _ rfl
      have c2 := hbx1.get 2 _ rfl
      have c3 := hbx1.get 3 _ rfl
      have c4 := hbx1.get 4 _ rfl
      have c5 := hbx1.get 5 _ rfl
      have r0 := hbr1.get 0 _ rfl
      have r1 := hbr1.get 1 _ rfl
      have r2 := hbr1.get 2 _ rfl
      have r3 := hbr1.get 3 _ rfl
      have r4 := hbr1.get 4 _ rfl
      have r5 := hbr1.get 5 _ rfl
      have g0 := hbr1.frozen 0
      have g1 := hbr1.frozen 1
      have g2 := hbr1.frozen 2
      have g3 := hbr1.frozen 3
      have g4 := hbr1.frozen 4
      have g5 := hbr1.frozen 5
      by_cases hk0 : k = 0
      · have hfin := Lib.hid (hpz.out hk0)
        subst hk0
        go_wp2_with fail
        obtain ⟨hp6, hb6⟩ := put6 hbr1 (.int .i64 0) (.string ⟨#[]⟩) (.string ⟨#[]⟩) (.int .i64 0) (.int .i64 0) (.slice none 0 0) hW1 (by omega)
        refine bodyPost_ret (res18 hp6 rfl rfl) rfl ?_
        rw [hfin.out]
        exact ⟨_, rfl, World.ownsRow_nil _ _ _ _, hb6⟩
      · have hk0' : (k == 0) = false := beq_eq_false_iff_ne.2 hk0
        have hk1 : 1 ≤ k := by omega
        have hk2 : k ≤ 13 := hkr.2
        clear hk0 hkr
        have hFC := Lib.hid (fields_any ⟨k, [], [], 0, 0, []⟩ (.slice none 0 0) w2 ⟨⟨by show _ ≤ k; omega, by show k ≤ _; omega⟩, in64_zero, in64_zero⟩ (by simp) (fun _ => by simp) (fun _ => by simp) (Rd.nil _ _))
        have hnf := fields_nf k
        go_wp2_with fail
        refine hFC.out.mono ?_
        rintro e w3 ⟨v, rfl, hown, hb3⟩
        obtain ⟨fa, fc, rfl⟩ := (Rd.of_own (enc := strV) hown).len
        have hbx3 := hbx1.below hb3
        have htx3 := htx1.below hb3
        have hbr3 := hbr1.below hb3
        have hW3 := hW1.trans (hb3.mono hW1.size)
        clear hown hb3 hFC hbx1 htx1 hbr1 hW1 c0 c1 c2 c3 c4 c5 r0 r1 r2 r3 r4 r5 g0 g1 g2 g3 g4 g5
        rw [hnf]
        clear hnf
        have c0 := hbx3.get 0 _ rfl
        have r0 := hbr3.get 0 _ rfl
        have r1 := hbr3.get 1 _ rfl
        have r2 := hbr3.get 2 _ rfl
        have r3 := hbr3.get 3 _ rfl
        have r4 := hbr3.get 4 _ rfl
        have r5 := hbr3.get 5 _ rfl
        have g0 := hbr3.frozen 0
        have g1 := hbr3.frozen 1
        have g2 := hbr3.frozen 2
        have g3 := hbr3.frozen 3
        have g4 := hbr3.frozen 4
        have g5 := hbr3.frozen 5
        by_cases hlen : ws.length ≠ 1 + Tr.nf k
        · have hfin := Lib.hid (hpn.out hlen)
          obtain ⟨m, hm⟩ : ∃ m, Tr.nf k = m := ⟨_, rfl⟩
          have hm3 : m ≤ 3 := by rw [← hm]; exact nf_le k
          rw [hm] at hlen ⊢
          replace hm := Lib.hid hm
          have e1 : ((ws.length : Int) != 1 + (m : Int)) = true := by rw [bne_iff_ne]; omega
          replace hlen := Lib.hid hlen
          go_wp2_with fail
          obtain ⟨hp6, hb6⟩ := put6 hbr3 (.int .i64 0) (.string ⟨#[]⟩) (.string ⟨#[]⟩) (.int .i64 0) (.int .i64 0) (.slice none 0 0) hW3 (by omega)
          refine bodyPost_ret (res18 hp6 rfl rfl) rfl ?_
          rw [hfin.out]
          exact ⟨_, rfl, World.ownsRow_nil _ _ _ _, hb6⟩
        have hlen : ws.length = 1 + Tr.nf k := Decidable.not_not.1 hlen
        have hpp := Lib.hid (parse_out (s := s) hws hx0 hk.out hk1 hlen)
        clear hpn hpz
        obtain ⟨X1, hX1⟩ : ∃ X, ws.getD 1 [] = X := ⟨_, rfl⟩
        obtain ⟨X2, hX2⟩ : ∃ X, ws.getD 2 [] = X := ⟨_, rfl⟩
        obtain ⟨X3, hX3⟩ : ∃ X, ws.getD 3 [] = X := ⟨_, rfl⟩
        have hmem : ∀ i, (ws.getD i []).length ≤ 1000000 := fun i => by rw [← hws]; exact Nat.le_trans (getD_len 32 s i) hs
        have hl1 : X1.length ≤ 1000000 := hX1 ▸ hmem 1
        have hl2 : X2.length ≤ 1000000 := hX2 ▸ hmem 2
        have hl3 : X3.length ≤ 1000000 := hX3 ▸ hmem 3
        clear hmem
        have hu1 := fun W => unquote_pair X1 W (by omega)
        have hu2 := fun W => unquote_pair X2 W (by omega)
        have hn2 := fun W => parseNum_any X2 W (by omega)
        have hn3 := fun W => parseNum_any X3 W (by omega)
        have hx3 := fun W => unhexes_pair X3 W (by omega)
        have hP1 := Nat.le_trans (Tr.unq_len X1) hl1
        have hP2 := Nat.le_trans (Tr.unq_len X2) hl2
        have hD3 := Nat.le_trans (Tr.unhexesX_len X3) hl3
        have hN2 := pnum_in X2
        have hN3 := pnum_in X3
        obtain ⟨P1, eP1⟩ : ∃ P, (Tr.unq X1).getD [] = P := ⟨_, rfl⟩
        obtain ⟨P2, eP2⟩ : ∃ P, (Tr.unq X2).getD [] = P := ⟨_, rfl⟩
        obtain ⟨D3, eD3⟩ : ∃ P, (Tr.unhexesX X3).getD [] = P := ⟨_, rfl⟩
        obtain ⟨⟨N2, o2⟩, eN2⟩ : ∃ P, Tr.pnum X2 = P := ⟨_, rfl⟩
        obtain ⟨⟨N3, o3⟩, eN3⟩ : ∃ P, Tr.pnum X3 = P := ⟨_, rfl⟩
        rw [eP1] at hP1 hu1
        rw [eP2] at hP2 hu2
        rw [eD3] at hD3 hx3
        rw [eN2] at hN2 hn2
        rw [eN3] at hN3 hn3
        obtain ⟨z1, hz1⟩ : ∃ z : Int, (if (Tr.unq X1).isSome then 0 else 270) = z := ⟨_, rfl⟩
        obtain ⟨z2, hz2⟩ : ∃ z : Int, (if (Tr.unq X2).isSome then 0 else 270) = z := ⟨_, rfl⟩
        rw [hz1] at hu1
        rw [hz2] at hu2
        clear hz1 hz2
        replace hu1 := Lib.hid hu1
        replace hu2 := Lib.hid hu2
        replace hn2 := Lib.hid hn2
        replace hn3 := Lib.hid hn3
        replace hx3 := Lib.hid hx3
        replace hN2 := Lib.hid hN2
        replace hN3 := Lib.hid hN3
        dsimp only at hN2 hN3
        by_cases k3 : k = 3
        · subst k3
          have hnf : Tr.nf 3 = 2 := rfl
          rw [hnf] at hlen ⊢
          clear hnf
          have e1 : ((ws.length : Int) != 3) = false := by rw [bne_eq_false_iff_eq]; omega
          replace hlen := Lib.hid hlen
          have hge : 3 ≤ ws.length := by have := hlen.out; omega
          have hle1 : ws.length ≤ 3 := by have := hlen.out; omega
          have ct1 := tx_get htx3 1 (by omega)
          rw [hX1] at ct1
          have hsz1 := hW3.size
          go_wp2_with fail
          refine (hu1.out _).mono ?_
          rintro e wn1 ⟨rfl, hbn1⟩
          have bx1 := hbx3.below hbn1
          have tx1 := htx3.below hbn1
          have br1 := hbr3.below hbn1
          have W1 := hW3.trans (hbn1.mono hW3.size)
          have cz1 := bx1.get 0 _ rfl
          have cs1 := bx1.get 1 _ rfl
          have fs1 := bx1.frozen 1
          have sx1 : Box (wn1.setCell ⟨b2 + 1 + 1, 1, none⟩ (.string (S P1))) (b2 + 1 + 1) 44 #[(.int .i64 3), (.string (S P1)), (.string ⟨#[]⟩), (.int .i64 0), (.int .i64 0), (.slice none 0 0)] := by simpa using bx1.set 1 (.string (S P1))
          have st1 : Box (wn1.setCell ⟨b2 + 1 + 1, 1, none⟩ (.string (S P1))) (b2 + 1) 9 (ws.map strV).toArray := tx1.setFar _ _ (by show b2 + 1 + 1 ≠ b2 + 1; omega)
          have sr1 : Box (wn1.setCell ⟨b2 + 1 + 1, 1, none⟩ (.string (S P1))) b2 44 #[.int .i64 0, .string ⟨#[]⟩, .string ⟨#[]⟩, .int .i64 0, .int .i64 0, .slice none 0 0] := br1.setFar _ _ (by show b2 + 1 + 1 ≠ b2; omega)
          have sW1 : Below w.heap.size w (wn1.setCell ⟨b2 + 1 + 1, 1, none⟩ (.string (S P1))) := W1.setCell (p := ⟨b2 + 1 + 1, 1, none⟩) (by show w.heap.size ≤ b2 + 1 + 1; omega) _
          clear hbn1 ct1
          have ct2 := tx_get st1 2 (by omega)
          rw [hX2] at ct2
          have hsz2 := sW1.size
          go_wp2_with fail
          refine (hu2.out _).mono ?_
          rintro e wn2 ⟨rfl, hbn2⟩
          have bx2 := sx1.below hbn2
          have tx2 := st1.below hbn2
          have br2 := sr1.below hbn2
          have W2 := sW1.trans (hbn2.mono sW1.size)
          have cz2 := bx2.get 0 _ rfl
          have cs2 := bx2.get 2 _ rfl
          have fs2 := bx2.frozen 2
          have sx2 : Box (wn2.setCell ⟨b2 + 1 + 1, 2, none⟩ (.string (S P2))) (b2 + 1 + 1) 44 #[(.int .i64 3), (.string (S P1)), (.string (S P2)), (.int .i64 0), (.int .i64 0), (.slice none 0 0)] := by simpa using bx2.set 2 (.string (S P2))
          have st2 : Box (wn2.setCell ⟨b2 + 1 + 1, 2, none⟩ (.string (S P2))) (b2 + 1) 9 (ws.map strV).toArray := tx2.setFar _ _ (by show b2 + 1 + 1 ≠ b2 + 1; omega)
          have sr2 : Box (wn2.setCell ⟨b2 + 1 + 1, 2, none⟩ (.string (S P2))) b2 44 #[.int .i64 0, .string ⟨#[]⟩, .string ⟨#[]⟩, .int .i64 0, .int .i64 0, .slice none 0 0] := br2.setFar _ _ (by show b2 + 1 + 1 ≠ b2; omega)
          have sW2 : Below w.heap.size w (wn2.setCell ⟨b2 + 1 + 1, 2, none⟩ (.string (S P2))) := W2.setCell (p := ⟨b2 + 1 + 1, 2, none⟩) (by show w.heap.size ≤ b2 + 1 + 1; omega) _
          clear hbn2 ct2
          have hbuild := Lib.hid (show Tr.build ws = ⟨3, P1, P2, 0, 0, []⟩ by unfold Tr.build; simp only [hx0, show Tr.kindOf x = 3 from hk.out]; simp only [Tr.txt, hX1, hX2, hX3, eP1, eP2, eD3, eN2, eN3]; simp)
          have hp := hpp.out _ hbuild.out
          clear hpp
          have ca0 := sx2.get 0 _ rfl
          have ca1 := sx2.get 1 _ rfl
          have ca2 := sx2.get 2 _ rfl
          have ca3 := sx2.get 3 _ rfl
          have ca4 := sx2.get 4 _ rfl
          have ca5 := sx2.get 5 _ rfl
          have hGz := Lib.hid (hG.out.below sW2)
          have hsz9 := sW2.size
          have hok : Opr.ok ⟨3, P1, P2, 0, 0, []⟩ := ⟨⟨by show _ ≤ (3 : Int); omega, by show (3 : Int) ≤ _; omega⟩, in64_zero, in64_zero⟩
          have hll := Tr.line_len ⟨3, P1, P2, 0, 0, []⟩ hok 1000000 (by first | exact hP1 | exact Nat.zero_le _) (by first | exact hP2 | exact Nat.zero_le _) (by first | exact hD3 | exact Nat.zero_le _)
          have hprint := Lib.hid (print_any ⟨3, P1, P2, 0, 0, []⟩ _ _ hGz.out hok (by first | (have := hP1; show 3 * P1.length ≤ _; omega) | exact Nat.zero_le _) (fun _ => by first | (have := hP2; show 3 * P2.length ≤ _; omega) | exact Nat.zero_le _) (Rd.nil _ _) (fun _ => Nat.le_trans hll (by decide)))
          clear hok hll
          go_wp2_with fail
          refine hprint.out.mono ?_
          rintro e w9 ⟨rfl, hb9⟩
          have bx9 := sx2.below hb9
          have br9 := sr2.below hb9
          have W9 := sW2.trans (hb9.mono sW2.size)
          clear hb9
          have cb0 := bx9.get 0 _ rfl
          have cb1 := bx9.get 1 _ rfl
          have cb2 := bx9.get 2 _ rfl
          have cb3 := bx9.get 3 _ rfl
          have cb4 := bx9.get 4 _ rfl
          have cb5 := bx9.get 5 _ rfl
          have cr0 := br9.get 0 _ rfl
          have cr1 := br9.get 1 _ rfl
          have cr2 := br9.get 2 _ rfl
          have cr3 := br9.get 3 _ rfl
          have cr4 := br9.get 4 _ rfl
          have cr5 := br9.get 5 _ rfl
          have fr0 := br9.frozen 0
          have fr1 := br9.frozen 1
          have fr2 := br9.frozen 2
          have fr3 := br9.frozen 3
          have fr4 := br9.frozen 4
          have fr5 := br9.frozen 5
          obtain ⟨LN, hLN⟩ : ∃ LN, Tr.print ⟨3, P1, P2, 0, 0, []⟩ = LN := ⟨_, rfl⟩
          obtain ⟨LN1, LN2⟩ := LN
          rw [hLN] at hp ⊢
          dsimp only
          replace hp := Lib.hid hp
          replace hLN := Lib.hid hLN
          by_cases hq : LN2 = 0
          · by_cases hq1 : LN1 = s
            · have e2 : (LN2 != 0) = false := by simpa using hq
              have e1 : (LN1 == s) = true := by simpa using hq1
              have hfin := Lib.hid (hp.out.1 hq1 hq)
              replace hq := Lib.hid hq
              replace hq1 := Lib.hid hq1
              go_wp2_with fail
              obtain ⟨hp6, hb6⟩ := put6 br9 (.int .i64 3) (.string (S P1)) (.string (S P2)) (.int .i64 0) (.int .i64 0) (.slice none 0 0) W9 (by omega)
              refine bodyPost_ret (res18 hp6 rfl rfl) rfl ?_
              rw [hfin.out]
              exact ⟨_, rfl, World.ownsRow_nil _ _ _ _, hb6⟩
            · have e2 : (LN2 != 0) = false := by simpa using hq
              have e1 : (LN1 == s) = false := by simpa using hq1
              have hfin := Lib.hid (hp.out.2 (fun h => hq1 h.1))
              replace hq := Lib.hid hq
              replace hq1 := Lib.hid hq1
              go_wp2_with fail
              obtain ⟨hp6, hb6⟩ := put6 br9 (.int .i64 0) (.string ⟨#[]⟩) (.string ⟨#[]⟩) (.int .i64 0) (.int .i64 0) (.slice none 0 0) W9 (by omega)
              refine bodyPost_ret (res18 hp6 rfl rfl) rfl ?_
              rw [hfin.out]
              exact ⟨_, rfl, World.ownsRow_nil _ _ _ _, hb6⟩
          · have e2 : (LN2 != 0) = true := by simpa using hq
            have hfin := Lib.hid (hp.out.2 (fun h => hq h.2))
            replace hq := Lib.hid hq
            go_wp2_with fail
            obtain ⟨hp6, hb6⟩ := put6 br9 (.int .i64 0) (.string ⟨#[]⟩) (.string ⟨#[]⟩) (.int .i64 0) (.int .i64 0) (.slice none 0 0) W9 (by omega)
            refine bodyPost_ret (res18 hp6 rfl rfl) rfl ?_
            rw [hfin.out]
            exact ⟨_, rfl, World.ownsRow_nil _ _ _ _, hb6⟩
        by_cases k6 : k = 6
        · subst k6
          have hnf : Tr.nf 6 = 2 := rfl
          rw [hnf] at hlen ⊢
          clear hnf
          have e1 : ((ws.length : Int) != 3) = false := by rw [bne_eq_false_iff_eq]; omega
          replace hlen := Lib.hid hlen
          have hge : 3 ≤ ws.length := by have := hlen.out; omega
          have hle1 : ws.length ≤ 3 := by have := hlen.out; omega
          have ct1 := tx_get htx3 1 (by omega)
          rw [hX1] at ct1
          have hsz1 := hW3.size
          go_wp2_with fail
          refine (hu1.out _).mono ?_
          rintro e wn1 ⟨rfl, hbn1⟩
          have bx1 := hbx3.below hbn1
          have tx1 := htx3.below hbn1
          have br1 := hbr3.below hbn1
          have W1 := hW3.trans (hbn1.mono hW3.size)
          have cz1 := bx1.get 0 _ rfl
          have cs1 := bx1.get 1 _ rfl
          have fs1 := bx1.frozen 1
          have sx1 : Box (wn1.setCell ⟨b2 + 1 + 1, 1, none⟩ (.string (S P1))) (b2 + 1 + 1) 44 #[(.int .i64 6), (.string (S P1)), (.string ⟨#[]⟩), (.int .i64 0), (.int .i64 0), (.slice none 0 0)] := by simpa using bx1.set 1 (.string (S P1))
          have st1 : Box (wn1.setCell ⟨b2 + 1 + 1, 1, none⟩ (.string (S P1))) (b2 + 1) 9 (ws.map strV).toArray := tx1.setFar _ _ (by show b2 + 1 + 1 ≠ b2 + 1; omega)
          have sr1 : Box (wn1.setCell ⟨b2 + 1 + 1, 1, none⟩ (.string (S P1))) b2 44 #[.int .i64 0, .string ⟨#[]⟩, .string ⟨#[]⟩, .int .i64 0, .int .i64 0, .slice none 0 0] := br1.setFar _ _ (by show b2 + 1 + 1 ≠ b2; omega)
          have sW1 : Below w.heap.size w (wn1.setCell ⟨b2 + 1 + 1, 1, none⟩ (.string (S P1))) := W1.setCell (p := ⟨b2 + 1 + 1, 1, none⟩) (by show w.heap.size ≤ b2 + 1 + 1; omega) _
          clear hbn1 ct1
          have ct2 := tx_get st1 2 (by omega)
          rw [hX2] at ct2
          have hsz2 := sW1.size
          go_wp2_with fail
          refine (hu2.out _).mono ?_
          rintro e wn2 ⟨rfl, hbn2⟩
          have bx2 := sx1.below hbn2
          have tx2 := st1.below hbn2
          have br2 := sr1.below hbn2
          have W2 := sW1.trans (hbn2.mono sW1.size)
          have cz2 := bx2.get 0 _ rfl
          have cs2 := bx2.get 2 _ rfl
          have fs2 := bx2.frozen 2
          have sx2 : Box (wn2.setCell ⟨b2 + 1 + 1, 2, none⟩ (.string (S P2))) (b2 + 1 + 1) 44 #[(.int .i64 6), (.string (S P1)), (.string (S P2)), (.int .i64 0), (.int .i64 0), (.slice none 0 0)] := by simpa using bx2.set 2 (.string (S P2))
          have st2 : Box (wn2.setCell ⟨b2 + 1 + 1, 2, none⟩ (.string (S P2))) (b2 + 1) 9 (ws.map strV).toArray := tx2.setFar _ _ (by show b2 + 1 + 1 ≠ b2 + 1; omega)
          have sr2 : Box (wn2.setCell ⟨b2 + 1 + 1, 2, none⟩ (.string (S P2))) b2 44 #[.int .i64 0, .string ⟨#[]⟩, .string ⟨#[]⟩, .int .i64 0, .int .i64 0, .slice none 0 0] := br2.setFar _ _ (by show b2 + 1 + 1 ≠ b2; omega)
          have sW2 : Below w.heap.size w (wn2.setCell ⟨b2 + 1 + 1, 2, none⟩ (.string (S P2))) := W2.setCell (p := ⟨b2 + 1 + 1, 2, none⟩) (by show w.heap.size ≤ b2 + 1 + 1; omega) _
          clear hbn2 ct2
          have hbuild := Lib.hid (show Tr.build ws = ⟨6, P1, P2, 0, 0, []⟩ by unfold Tr.build; simp only [hx0, show Tr.kindOf x = 6 from hk.out]; simp only [Tr.txt, hX1, hX2, hX3, eP1, eP2, eD3, eN2, eN3]; simp)
          have hp := hpp.out _ hbuild.out
          clear hpp
          have ca0 := sx2.get 0 _ rfl
          have ca1 := sx2.get 1 _ rfl
          have ca2 := sx2.get 2 _ rfl
          have ca3 := sx2.get 3 _ rfl
          have ca4 := sx2.get 4 _ rfl
          have ca5 := sx2.get 5 _ rfl
          have hGz := Lib.hid (hG.out.below sW2)
          have hsz9 := sW2.size
          have hok : Opr.ok ⟨6, P1, P2, 0, 0, []⟩ := ⟨⟨by show _ ≤ (6 : Int); omega, by show (6 : Int) ≤ _; omega⟩, in64_zero, in64_zero⟩
          have hll := Tr.line_len ⟨6, P1, P2, 0, 0, []⟩ hok 1000000 (by first | exact hP1 | exact Nat.zero_le _) (by first | exact hP2 | exact Nat.zero_le _) (by first | exact hD3 | exact Nat.zero_le _)
          have hprint := Lib.hid (print_any ⟨6, P1, P2, 0, 0, []⟩ _ _ hGz.out hok (by first | (have := hP1; show 3 * P1.length ≤ _; omega) | exact Nat.zero_le _) (fun _ => by first | (have := hP2; show 3 * P2.length ≤ _; omega) | exact Nat.zero_le _) (Rd.nil _ _) (fun _ => Nat.le_trans hll (by decide)))
          clear hok hll
          go_wp2_with fail
          refine hprint.out.mono ?_
          rintro e w9 ⟨rfl, hb9⟩
          have bx9 := sx2.below hb9
          have br9 := sr2.below hb9
          have W9 := sW2.trans (hb9.mono sW2.size)
          clear hb9
          have cb0 := bx9.get 0 _ rfl
          have cb1 := bx9.get 1 _ rfl
          have cb2 := bx9.get 2 _ rfl
          have cb3 := bx9.get 3 _ rfl
          have cb4 := bx9.get 4 _ rfl
          have cb5 := bx9.get 5 _ rfl
          have cr0 := br9.get 0 _ rfl
          have cr1 := br9.get 1 _ rfl
          have cr2 := br9.get 2 _ rfl
          have cr3 := br9.get 3 _ rfl
          have cr4 := br9.get 4 _ rfl
          have cr5 := br9.get 5 _ rfl
          have fr0 := br9.frozen 0
          have fr1 := br9.frozen 1
          have fr2 := br9.frozen 2
          have fr3 := br9.frozen 3
          have fr4 := br9.frozen 4
          have fr5 := br9.frozen 5
          obtain ⟨LN, hLN⟩ : ∃ LN, Tr.print ⟨6, P1, P2, 0, 0, []⟩ = LN := ⟨_, rfl⟩
          obtain ⟨LN1, LN2⟩ := LN
          rw [hLN] at hp ⊢
          dsimp only
          replace hp := Lib.hid hp
          replace hLN := Lib.hid hLN
          by_cases hq : LN2 = 0
          · by_cases hq1 : LN1 = s
            · have e2 : (LN2 != 0) = false := by simpa using hq
              have e1 : (LN1 == s) = true := by simpa using hq1
              have hfin := Lib.hid (hp.out.1 hq1 hq)
              replace hq := Lib.hid hq
              replace hq1 := Lib.hid hq1
              go_wp2_with fail
              obtain ⟨hp6, hb6⟩ := put6 br9 (.int .i64 6) (.string (S P1)) (.string (S P2)) (.int .i64 0) (.int .i64 0) (.slice none 0 0) W9 (by omega)
              refine bodyPost_ret (res18 hp6 rfl rfl) rfl ?_
              rw [hfin.out]
              exact ⟨_, rfl, World.ownsRow_nil _ _ _ _, hb6⟩
            · have e2 : (LN2 != 0) = false := by simpa using hq
              have e1 : (LN1 == s) = false := by simpa using hq1
              have hfin := Lib.hid (hp.out.2 (fun h => hq1 h.1))
              replace hq := Lib.hid hq
              replace hq1 := Lib.hid hq1
              go_wp2_with fail
              obtain ⟨hp6, hb6⟩ := put6 br9 (.int .i64 0) (.string ⟨#[]⟩) (.string ⟨#[]⟩) (.int .i64 0) (.int .i64 0) (.slice none 0 0) W9 (by omega)
              refine bodyPost_ret (res18 hp6 rfl rfl) rfl ?_
              rw [hfin.out]
              exact ⟨_, rfl, World.ownsRow_nil _ _ _ _, hb6⟩
          · have e2 : (LN2 != 0) = true := by simpa using hq
            have hfin := Lib.hid (hp.out.2 (fun h => hq h.2))
            replace hq := Lib.hid hq
            go_wp2_with fail
            obtain ⟨hp6, hb6⟩ := put6 br9 (.int .i64 0) (.string ⟨#[]⟩) (.string ⟨#[]⟩) (.int .i64 0) (.int .i64 0) (.slice none 0 0) W9 (by omega)
            refine bodyPost_ret (res18 hp6 rfl rfl) rfl ?_
            rw [hfin.out]
            exact ⟨_, rfl, World.ownsRow_nil _ _ _ _, hb6⟩
        by_cases k8 : k = 8
        · subst k8
          have hnf : Tr.nf 8 = 2 := rfl
          rw [hnf] at hlen ⊢
          clear hnf
          have e1 : ((ws.length : Int) != 3) = false := by rw [bne_eq_false_iff_eq]; omega
          replace hlen := Lib.hid hlen
          have hge : 3 ≤ ws.length := by have := hlen.out; omega
          have hle1 : ws.length ≤ 3 := by have := hlen.out; omega
          have ct1 := tx_get htx3 1 (by omega)
          rw [hX1] at ct1
          have hsz1 := hW3.size
          go_wp2_with fail
          refine (hu1.out _).mono ?_
          rintro e wn1 ⟨rfl, hbn1⟩
          have bx1 := hbx3.below hbn1
          have tx1 := htx3.below hbn1
          have br1 := hbr3.below hbn1
          have W1 := hW3.trans (hbn1.mono hW3.size)
          have cz1 := bx1.get 0 _ rfl
          have cs1 := bx1.get 1 _ rfl
          have fs1 := bx1.frozen 1
          have sx1 : Box (wn1.setCell ⟨b2 + 1 + 1, 1, none⟩ (.string (S P1))) (b2 + 1 + 1) 44 #[(.int .i64 8), (.string (S P1)), (.string ⟨#[]⟩), (.int .i64 0), (.int .i64 0), (.slice none 0 0)] := by simpa using bx1.set 1 (.string (S P1))
          have st1 : Box (wn1.setCell ⟨b2 + 1 + 1, 1, none⟩ (.string (S P1))) (b2 + 1) 9 (ws.map strV).toArray := tx1.setFar _ _ (by show b2 + 1 + 1 ≠ b2 + 1; omega)
          have sr1 : Box (wn1.setCell ⟨b2 + 1 + 1, 1, none⟩ (.string (S P1))) b2 44 #[.int .i64 0, .string ⟨#[]⟩, .string ⟨#[]⟩, .int .i64 0, .int .i64 0, .slice none 0 0] := br1.setFar _ _ (by show b2 + 1 + 1 ≠ b2; omega)
          have sW1 : Below w.heap.size w (wn1.setCell ⟨b2 + 1 + 1, 1, none⟩ (.string (S P1))) := W1.setCell (p := ⟨b2 + 1 + 1, 1, none⟩) (by show w.heap.size ≤ b2 + 1 + 1; omega) _
          clear hbn1 ct1
          have ct2 := tx_get st1 2 (by omega)
          rw [hX2] at ct2
          have hsz2 := sW1.size
          go_wp2_with fail
          refine (hn2.out _).mono ?_
          rintro e wn2 ⟨rfl, hbn2⟩
          have bx2 := sx1.below hbn2
          have tx2 := st1.below hbn2
          have br2 := sr1.below hbn2
          have W2 := sW1.trans (hbn2.mono sW1.size)
          have cz2 := bx2.get 0 _ rfl
          have cs2 := bx2.get 4 _ rfl
          have fs2 := bx2.frozen 4
          have sx2 : Box (wn2.setCell ⟨b2 + 1 + 1, 4, none⟩ (.int .i64 N2)) (b2 + 1 + 1) 44 #[(.int .i64 8), (.string (S P1)), (.string ⟨#[]⟩), (.int .i64 0), (.int .i64 N2), (.slice none 0 0)] := by simpa using bx2.set 4 (.int .i64 N2)
          have st2 : Box (wn2.setCell ⟨b2 + 1 + 1, 4, none⟩ (.int .i64 N2)) (b2 + 1) 9 (ws.map strV).toArray := tx2.setFar _ _ (by show b2 + 1 + 1 ≠ b2 + 1; omega)
          have sr2 : Box (wn2.setCell ⟨b2 + 1 + 1, 4, none⟩ (.int .i64 N2)) b2 44 #[.int .i64 0, .string ⟨#[]⟩, .string ⟨#[]⟩, .int .i64 0, .int .i64 0, .slice none 0 0] := br2.setFar _ _ (by show b2 + 1 + 1 ≠ b2; omega)
          have sW2 : Below w.heap.size w (wn2.setCell ⟨b2 + 1 + 1, 4, none⟩ (.int .i64 N2)) := W2.setCell (p := ⟨b2 + 1 + 1, 4, none⟩) (by show w.heap.size ≤ b2 + 1 + 1; omega) _
          clear hbn2 ct2
          have hbuild := Lib.hid (show Tr.build ws = ⟨8, P1, [], 0, N2, []⟩ by unfold Tr.build; simp only [hx0, show Tr.kindOf x = 8 from hk.out]; simp only [Tr.txt, hX1, hX2, hX3, eP1, eP2, eD3, eN2, eN3]; simp)
          have hp := hpp.out _ hbuild.out
          clear hpp
          have ca0 := sx2.get 0 _ rfl
          have ca1 := sx2.get 1 _ rfl
          have ca2 := sx2.get 2 _ rfl
          have ca3 := sx2.get 3 _ rfl
          have ca4 := sx2.get 4 _ rfl
          have ca5 := sx2.get 5 _ rfl
          have hGz := Lib.hid (hG.out.below sW2)
          have hsz9 := sW2.size
          have hok : Opr.ok ⟨8, P1, [], 0, N2, []⟩ := ⟨⟨by show _ ≤ (8 : Int); omega, by show (8 : Int) ≤ _; omega⟩, in64_zero, hN2.out⟩
          have hll := Tr.line_len ⟨8, P1, [], 0, N2, []⟩ hok 1000000 (by first | exact hP1 | exact Nat.zero_le _) (by first | exact hP2 | exact Nat.zero_le _) (by first | exact hD3 | exact Nat.zero_le _)
          have hprint := Lib.hid (print_any ⟨8, P1, [], 0, N2, []⟩ _ _ hGz.out hok (by first | (have := hP1; show 3 * P1.length ≤ _; omega) | exact Nat.zero_le _) (fun _ => by first | (have := hP2; show 3 * P2.length ≤ _; omega) | exact Nat.zero_le _) (Rd.nil _ _) (fun _ => Nat.le_trans hll (by decide)))
          clear hok hll
          go_wp2_with fail
          refine hprint.out.mono ?_
          rintro e w9 ⟨rfl, hb9⟩
          have bx9 := sx2.below hb9
          have br9 := sr2.below hb9
          have W9 := sW2.trans (hb9.mono sW2.size)
          clear hb9
          have cb0 := bx9.get 0 _ rfl
          have cb1 := bx9.get 1 _ rfl
          have cb2 := bx9.get 2 _ rfl
          have cb3 := bx9.get 3 _ rfl
          have cb4 := bx9.get 4 _ rfl
          have cb5 := bx9.get 5 _ rfl
          have cr0 := br9.get 0 _ rfl
          have cr1 := br9.get 1 _ rfl
          have cr2 := br9.get 2 _ rfl
          have cr3 := br9.get 3 _ rfl
          have cr4 := br9.get 4 _ rfl
          have cr5 := br9.get 5 _ rfl
          have fr0 := br9.frozen 0
          have fr1 := br9.frozen 1
          have fr2 := br9.frozen 2
          have fr3 := br9.frozen 3
          have fr4 := br9.frozen 4
          have fr5 := br9.frozen 5
          obtain ⟨LN, hLN⟩ : ∃ LN, Tr.print ⟨8, P1, [], 0, N2, []⟩ = LN := ⟨_, rfl⟩
          obtain ⟨LN1, LN2⟩ := LN
          rw [hLN] at hp ⊢
          dsimp only
          replace hp := Lib.hid hp
          replace hLN := Lib.hid hLN
          by_cases hq : LN2 = 0
          · by_cases hq1 : LN1 = s
            · have e2 : (LN2 != 0) = false := by simpa using hq
              have e1 : (LN1 == s) = true := by simpa using hq1
              have hfin := Lib.hid (hp.out.1 hq1 hq)
              replace hq := Lib.hid hq
              replace hq1 := Lib.hid hq1
              go_wp2_with fail
              obtain ⟨hp6, hb6⟩ := put6 br9 (.int .i64 8) (.string (S P1)) (.string ⟨#[]⟩) (.int .i64 0) (.int .i64 N2) (.slice none 0 0) W9 (by omega)
              refine bodyPost_ret (res18 hp6 rfl rfl) rfl ?_
              rw [hfin.out]
              exact ⟨_, rfl, World.ownsRow_nil _ _ _ _, hb6⟩
            · have e2 : (LN2 != 0) = false := by simpa using hq
              have e1 : (LN1 == s) = false := by simpa using hq1
              have hfin := Lib.hid (hp.out.2 (fun h => hq1 h.1))
              replace hq := Lib.hid hq
              replace hq1 := Lib.hid hq1
              go_wp2_with fail
              obtain ⟨hp6, hb6⟩ := put6 br9 (.int .i64 0) (.string ⟨#[]⟩) (.string ⟨#[]⟩) (.int .i64 0) (.int .i64 0) (.slice none 0 0) W9 (by omega)
              refine bodyPost_ret (res18 hp6 rfl rfl) rfl ?_
              rw [hfin.out]
              exact ⟨_, rfl, World.ownsRow_nil _ _ _ _, hb6⟩
          · have e2 : (LN2 != 0) = true := by simpa using hq
            have hfin := Lib.hid (hp.out.2 (fun h => hq h.2))
            replace hq := Lib.hid hq
            go_wp2_with fail
            obtain ⟨hp6, hb6⟩ := put6 br9 (.int .i64 0) (.string ⟨#[]⟩) (.string ⟨#[]⟩) (.int .i64 0) (.int .i64 0) (.slice none 0 0) W9 (by omega)
            refine bodyPost_ret (res18 hp6 rfl rfl) rfl ?_
            rw [hfin.out]
            exact ⟨_, rfl, World.ownsRow_nil _ _ _ _, hb6⟩
        by_cases k9 : k = 9
        · subst k9
          have hnf : Tr.nf 9 = 3 := rfl
          rw [hnf] at hlen ⊢
          clear hnf
          have e1 : ((ws.length : Int) != 4) = false := by rw [bne_eq_false_iff_eq]; omega
          replace hlen := Lib.hid hlen
          have hge : 4 ≤ ws.length := by have := hlen.out; omega
          have hle1 : ws.length ≤ 4 := by have := hlen.out; omega
          have ct1 := tx_get htx3 1 (by omega)
          rw [hX1] at ct1
          have hsz1 := hW3.size
          go_wp2_with fail
          refine (hu1.out _).mono ?_
          rintro e wn1 ⟨rfl, hbn1⟩
          have bx1 := hbx3.below hbn1
          have tx1 := htx3.below hbn1
          have br1 := hbr3.below hbn1
          have W1 := hW3.trans (hbn1.mono hW3.size)
          have cz1 := bx1.get 0 _ rfl
          have cs1 := bx1.get 1 _ rfl
          have fs1 := bx1.frozen 1
          have sx1 : Box (wn1.setCell ⟨b2 + 1 + 1, 1, none⟩ (.string (S P1))) (b2 + 1 + 1) 44 #[(.int .i64 9), (.string (S P1)), (.string ⟨#[]⟩), (.int .i64 0), (.int .i64 0), (.slice none 0 0)] := by simpa using bx1.set 1 (.string (S P1))
          have st1 : Box (wn1.setCell ⟨b2 + 1 + 1, 1, none⟩ (.string (S P1))) (b2 + 1) 9 (ws.map strV).toArray := tx1.setFar _ _ (by show b2 + 1 + 1 ≠ b2 + 1; omega)
          have sr1 : Box (wn1.setCell ⟨b2 + 1 + 1, 1, none⟩ (.string (S P1))) b2 44 #[.int .i64 0, .string ⟨#[]⟩, .string ⟨#[]⟩, .int .i64 0, .int .i64 0, .slice none 0 0] := br1.setFar _ _ (by show b2 + 1 + 1 ≠ b2; omega)
          have sW1 : Below w.heap.size w (wn1.setCell ⟨b2 + 1 + 1, 1, none⟩ (.string (S P1))) := W1.setCell (p := ⟨b2 + 1 + 1, 1, none⟩) (by show w.heap.size ≤ b2 + 1 + 1; omega) _
          clear hbn1 ct1
          have ct2 := tx_get st1 2 (by omega)
          rw [hX2] at ct2
          have hsz2 := sW1.size
          go_wp2_with fail
          refine (hn2.out _).mono ?_
          rintro e wn2 ⟨rfl, hbn2⟩
          have bx2 := sx1.below hbn2
          have tx2 := st1.below hbn2
          have br2 := sr1.below hbn2
          have W2 := sW1.trans (hbn2.mono sW1.size)
          have cz2 := bx2.get 0 _ rfl
          have cs2 := bx2.get 3 _ rfl
          have fs2 := bx2.frozen 3
          have sx2 : Box (wn2.setCell ⟨b2 + 1 + 1, 3, none⟩ (.int .i64 N2)) (b2 + 1 + 1) 44 #[(.int .i64 9), (.string (S P1)), (.string ⟨#[]⟩), (.int .i64 N2), (.int .i64 0), (.slice none 0 0)] := by simpa using bx2.set 3 (.int .i64 N2)
          have st2 : Box (wn2.setCell ⟨b2 + 1 + 1, 3, none⟩ (.int .i64 N2)) (b2 + 1) 9 (ws.map strV).toArray := tx2.setFar _ _ (by show b2 + 1 + 1 ≠ b2 + 1; omega)
          have sr2 : Box (wn2.setCell ⟨b2 + 1 + 1, 3, none⟩ (.int .i64 N2)) b2 44 #[.int .i64 0, .string ⟨#[]⟩, .string ⟨#[]⟩, .int .i64 0, .int .i64 0, .slice none 0 0] := br2.setFar _ _ (by show b2 + 1 + 1 ≠ b2; omega)
          have sW2 : Below w.heap.size w (wn2.setCell ⟨b2 + 1 + 1, 3, none⟩ (.int .i64 N2)) := W2.setCell (p := ⟨b2 + 1 + 1, 3, none⟩) (by show w.heap.size ≤ b2 + 1 + 1; omega) _
          clear hbn2 ct2
          have ct3 := tx_get st2 3 (by omega)
          rw [hX3] at ct3
          have hsz3 := sW2.size
          go_wp2_with fail
          refine (hn3.out _).mono ?_
          rintro e wn3 ⟨rfl, hbn3⟩
          have bx3 := sx2.below hbn3
          have tx3 := st2.below hbn3
          have br3 := sr2.below hbn3
          have W3 := sW2.trans (hbn3.mono sW2.size)
          have cz3 := bx3.get 0 _ rfl
          have cs3 := bx3.get 4 _ rfl
          have fs3 := bx3.frozen 4
          have sx3 : Box (wn3.setCell ⟨b2 + 1 + 1, 4, none⟩ (.int .i64 N3)) (b2 + 1 + 1) 44 #[(.int .i64 9), (.string (S P1)), (.string ⟨#[]⟩), (.int .i64 N2), (.int .i64 N3), (.slice none 0 0)] := by simpa using bx3.set 4 (.int .i64 N3)
          have st3 : Box (wn3.setCell ⟨b2 + 1 + 1, 4, none⟩ (.int .i64 N3)) (b2 + 1) 9 (ws.map strV).toArray := tx3.setFar _ _ (by show b2 + 1 + 1 ≠ b2 + 1; omega)
          have sr3 : Box (wn3.setCell ⟨b2 + 1 + 1, 4, none⟩ (.int .i64 N3)) b2 44 #[.int .i64 0, .string ⟨#[]⟩, .string ⟨#[]⟩, .int .i64 0, .int .i64 0, .slice none 0 0] := br3.setFar _ _ (by show b2 + 1 + 1 ≠ b2; omega)
          have sW3 : Below w.heap.size w (wn3.setCell ⟨b2 + 1 + 1, 4, none⟩ (.int .i64 N3)) := W3.setCell (p := ⟨b2 + 1 + 1, 4, none⟩) (by show w.heap.size ≤ b2 + 1 + 1; omega) _
          clear hbn3 ct3
          have hbuild := Lib.hid (show Tr.build ws = ⟨9, P1, [], N2, N3, []⟩ by unfold Tr.build; simp only [hx0, show Tr.kindOf x = 9 from hk.out]; simp only [Tr.txt, hX1, hX2, hX3, eP1, eP2, eD3, eN2, eN3]; simp)
          have hp := hpp.out _ hbuild.out
          clear hpp
          have ca0 := sx3.get 0 _ rfl
          have ca1 := sx3.get 1 _ rfl
          have ca2 := sx3.get 2 _ rfl
          have ca3 := sx3.get 3 _ rfl
          have ca4 := sx3.get 4 _ rfl
          have ca5 := sx3.get 5 _ rfl
          have hGz := Lib.hid (hG.out.below sW3)
          have hsz9 := sW3.size
          have hok : Opr.ok ⟨9, P1, [], N2, N3, []⟩ := ⟨⟨by show _ ≤ (9 : Int); omega, by show (9 : Int) ≤ _; omega⟩, hN2.out, hN3.out⟩
          have hll := Tr.line_len ⟨9, P1, [], N2, N3, []⟩ hok 1000000 (by first | exact hP1 | exact Nat.zero_le _) (by first | exact hP2 | exact Nat.zero_le _) (by first | exact hD3 | exact Nat.zero_le _)
          have hprint := Lib.hid (print_any ⟨9, P1, [], N2, N3, []⟩ _ _ hGz.out hok (by first | (have := hP1; show 3 * P1.length ≤ _; omega) | exact Nat.zero_le _) (fun _ => by first | (have := hP2; show 3 * P2.length ≤ _; omega) | exact Nat.zero_le _) (Rd.nil _ _) (fun _ => Nat.le_trans hll (by decide)))
          clear hok hll
          go_wp2_with fail
          refine hprint.out.mono ?_
          rintro e w9 ⟨rfl, hb9⟩
          have bx9 := sx3.below hb9
          have br9 := sr3.below hb9
          have W9 := sW3.trans (hb9.mono sW3.size)
          clear hb9
          have cb0 := bx9.get 0 _ rfl
          have cb1 := bx9.get 1 _ rfl
          have cb2 := bx9.get 2 _ rfl
          have cb3 := bx9.get 3 _ rfl
          have cb4 := bx9.get 4 _ rfl
          have cb5 := bx9.get 5 _ rfl
          have cr0 := br9.get 0 _ rfl
          have cr1 := br9.get 1 _ rfl
          have cr2 := br9.get 2 _ rfl
          have cr3 := br9.get 3 _ rfl
          have cr4 := br9.get 4 _ rfl
          have cr5 := br9.get 5 _ rfl
          have fr0 := br9.frozen 0
          have fr1 := br9.frozen 1
          have fr2 := br9.frozen 2
          have fr3 := br9.frozen 3
          have fr4 := br9.frozen 4
          have fr5 := br9.frozen 5
          obtain ⟨LN, hLN⟩ : ∃ LN, Tr.print ⟨9, P1, [], N2, N3, []⟩ = LN := ⟨_, rfl⟩
          obtain ⟨LN1, LN2⟩ := LN
          rw [hLN] at hp ⊢
          dsimp only
          replace hp := Lib.hid hp
          replace hLN := Lib.hid hLN
          by_cases hq : LN2 = 0
          · by_cases hq1 : LN1 = s
            · have e2 : (LN2 != 0) = false := by simpa using hq
              have e1 : (LN1 == s) = true := by simpa using hq1
              have hfin := Lib.hid (hp.out.1 hq1 hq)
              replace hq := Lib.hid hq
              replace hq1 := Lib.hid hq1
              go_wp2_with fail
              obtain ⟨hp6, hb6⟩ := put6 br9 (.int .i64 9) (.string (S P1)) (.string ⟨#[]⟩) (.int .i64 N2) (.int .i64 N3) (.slice none 0 0) W9 (by omega)
              refine bodyPost_ret (res18 hp6 rfl rfl) rfl ?_
              rw [hfin.out]
              exact ⟨_, rfl, World.ownsRow_nil _ _ _ _, hb6⟩
            · have e2 : (LN2 != 0) = false := by simpa using hq
              have e1 : (LN1 == s) = false := by simpa using hq1
              have hfin := Lib.hid (hp.out.2 (fun h => hq1 h.1))
              replace hq := Lib.hid hq
              replace hq1 := Lib.hid hq1
              go_wp2_with fail
              obtain ⟨hp6, hb6⟩ := put6 br9 (.int .i64 0) (.string ⟨#[]⟩) (.string ⟨#[]⟩) (.int .i64 0) (.int .i64 0) (.slice none 0 0) W9 (by omega)
              refine bodyPost_ret (res18 hp6 rfl rfl) rfl ?_
              rw [hfin.out]
              exact ⟨_, rfl, World.ownsRow_nil _ _ _ _, hb6⟩
          · have e2 : (LN2 != 0) = true := by simpa using hq
            have hfin := Lib.hid (hp.out.2 (fun h => hq h.2))
            replace hq := Lib.hid hq
            go_wp2_with fail
            obtain ⟨hp6, hb6⟩ := put6 br9 (.int .i64 0) (.string ⟨#[]⟩) (.string ⟨#[]⟩) (.int .i64 0) (.int .i64 0) (.slice none 0 0) W9 (by omega)
            refine bodyPost_ret (res18 hp6 rfl rfl) rfl ?_
            rw [hfin.out]
            exact ⟨_, rfl, World.ownsRow_nil _ _ _ _, hb6⟩
        by_cases k7 : k = 7
        · subst k7
          have hnf : Tr.nf 7 = 3 := rfl
          rw [hnf] at hlen ⊢
          clear hnf
          have e1 : ((ws.length : Int) != 4) = false := by rw [bne_eq_false_iff_eq]; omega
          replace hlen := Lib.hid hlen
          have hge : 4 ≤ ws.length := by have := hlen.out; omega
          have hle1 : ws.length ≤ 4 := by have := hlen.out; omega
          have ct1 := tx_get htx3 1 (by omega)
          rw [hX1] at ct1
          have hsz1 := hW3.size
          go_wp2_with fail
          refine (hu1.out _).mono ?_
          rintro e wn1 ⟨rfl, hbn1⟩
          have bx1 := hbx3.below hbn1
          have tx1 := htx3.below hbn1
          have br1 := hbr3.below hbn1
          have W1 := hW3.trans (hbn1.mono hW3.size)
          have cz1 := bx1.get 0 _ rfl
          have cs1 := bx1.get 1 _ rfl
          have fs1 := bx1.frozen 1
          have sx1 : Box (wn1.setCell ⟨b2 + 1 + 1, 1, none⟩ (.string (S P1))) (b2 + 1 + 1) 44 #[(.int .i64 7), (.string (S P1)), (.string ⟨#[]⟩), (.int .i64 0), (.int .i64 0), (.slice none 0 0)] := by simpa using bx1.set 1 (.string (S P1))
          have st1 : Box (wn1.setCell ⟨b2 + 1 + 1, 1, none⟩ (.string (S P1))) (b2 + 1) 9 (ws.map strV).toArray := tx1.setFar _ _ (by show b2 + 1 + 1 ≠ b2 + 1; omega)
          have sr1 : Box (wn1.setCell ⟨b2 + 1 + 1, 1, none⟩ (.string (S P1))) b2 44 #[.int .i64 0, .string ⟨#[]⟩, .string ⟨#[]⟩, .int .i64 0, .int .i64 0, .slice none 0 0] := br1.setFar _ _ (by show b2 + 1 + 1 ≠ b2; omega)
          have sW1 : Below w.heap.size w (wn1.setCell ⟨b2 + 1 + 1, 1, none⟩ (.string (S P1))) := W1.setCell (p := ⟨b2 + 1 + 1, 1, none⟩) (by show w.heap.size ≤ b2 + 1 + 1; omega) _
          clear hbn1 ct1
          have ct2 := tx_get st1 2 (by omega)
          rw [hX2] at ct2
          have hsz2 := sW1.size
          go_wp2_with fail
          refine (hn2.out _).mono ?_
          rintro e wn2 ⟨rfl, hbn2⟩
          have bx2 := sx1.below hbn2
          have tx2 := st1.below hbn2
          have br2 := sr1.below hbn2
          have W2 := sW1.trans (hbn2.mono sW1.size)
          have cz2 := bx2.get 0 _ rfl
          have cs2 := bx2.get 3 _ rfl
          have fs2 := bx2.frozen 3
          have sx2 : Box (wn2.setCell ⟨b2 + 1 + 1, 3, none⟩ (.int .i64 N2)) (b2 + 1 + 1) 44 #[(.int .i64 7), (.string (S P1)), (.string ⟨#[]⟩), (.int .i64 N2), (.int .i64 0), (.slice none 0 0)] := by simpa using bx2.set 3 (.int .i64 N2)
          have st2 : Box (wn2.setCell ⟨b2 + 1 + 1, 3, none⟩ (.int .i64 N2)) (b2 + 1) 9 (ws.map strV).toArray := tx2.setFar _ _ (by show b2 + 1 + 1 ≠ b2 + 1; omega)
          have sr2 : Box (wn2.setCell ⟨b2 + 1 + 1, 3, none⟩ (.int .i64 N2)) b2 44 #[.int .i64 0, .string ⟨#[]⟩, .string ⟨#[]⟩, .int .i64 0, .int .i64 0, .slice none 0 0] := br2.setFar _ _ (by show b2 + 1 + 1 ≠ b2; omega)
          have sW2 : Below w.heap.size w (wn2.setCell ⟨b2 + 1 + 1, 3, none⟩ (.int .i64 N2)) := W2.setCell (p := ⟨b2 + 1 + 1, 3, none⟩) (by show w.heap.size ≤ b2 + 1 + 1; omega) _
          clear hbn2 ct2
          have ct3 := tx_get st2 3 (by omega)
          rw [hX3] at ct3
          have hsz3 := sW2.size
          go_wp2_with fail
          refine (hx3.out _).mono ?_
          rintro e wn3 ⟨dv, bo, rfl, hod, hbn3⟩
          have bx3 := sx2.below hbn3
          have tx3 := st2.below hbn3
          have br3 := sr2.below hbn3
          have W3 := sW2.trans (hbn3.mono sW2.size)
          have cz3 := bx3.get 0 _ rfl
          have cs3 := bx3.get 5 _ rfl
          have fs3 := bx3.frozen 5
          obtain ⟨dva, dvc, rfl⟩ := (Rd.of_own (enc := byteV) hod).len
          have sx3 : Box (wn3.setCell ⟨b2 + 1 + 1, 5, none⟩ ((.slice dva D3.length dvc))) (b2 + 1 + 1) 44 #[(.int .i64 7), (.string (S P1)), (.string ⟨#[]⟩), (.int .i64 N2), (.int .i64 0), (.slice dva D3.length dvc)] := by simpa using bx3.set 5 ((.slice dva D3.length dvc))
          have st3 : Box (wn3.setCell ⟨b2 + 1 + 1, 5, none⟩ ((.slice dva D3.length dvc))) (b2 + 1) 9 (ws.map strV).toArray := tx3.setFar _ _ (by show b2 + 1 + 1 ≠ b2 + 1; omega)
          have sr3 : Box (wn3.setCell ⟨b2 + 1 + 1, 5, none⟩ ((.slice dva D3.length dvc))) b2 44 #[.int .i64 0, .string ⟨#[]⟩, .string ⟨#[]⟩, .int .i64 0, .int .i64 0, .slice none 0 0] := br3.setFar _ _ (by show b2 + 1 + 1 ≠ b2; omega)
          have sW3 : Below w.heap.size w (wn3.setCell ⟨b2 + 1 + 1, 5, none⟩ ((.slice dva D3.length dvc))) := W3.setCell (p := ⟨b2 + 1 + 1, 5, none⟩) (by show w.heap.size ≤ b2 + 1 + 1; omega) _
          clear hbn3 ct3
          have hos := own_setFar (a := ⟨b2 + 1 + 1, 5, none⟩) hod (by show b2 + 1 + 1 < _; exact (sx2).lt) (.slice dva D3.length dvc)
          have hbuild := Lib.hid (show Tr.build ws = ⟨7, P1, [], N2, 0, D3⟩ by unfold Tr.build; simp only [hx0, show Tr.kindOf x = 7 from hk.out]; simp only [Tr.txt, hX1, hX2, hX3, eP1, eP2, eD3, eN2, eN3]; simp)
          have hp := hpp.out _ hbuild.out
          clear hpp
          have ca0 := sx3.get 0 _ rfl
          have ca1 := sx3.get 1 _ rfl
          have ca2 := sx3.get 2 _ rfl
          have ca3 := sx3.get 3 _ rfl
          have ca4 := sx3.get 4 _ rfl
          have ca5 := sx3.get 5 _ rfl
          have hGz := Lib.hid (hG.out.below sW3)
          have hsz9 := sW3.size
          have hok : Opr.ok ⟨7, P1, [], N2, 0, D3⟩ := ⟨⟨by show _ ≤ (7 : Int); omega, by show (7 : Int) ≤ _; omega⟩, hN2.out, in64_zero⟩
          have hll := Tr.line_len ⟨7, P1, [], N2, 0, D3⟩ hok 1000000 (by first | exact hP1 | exact Nat.zero_le _) (by first | exact hP2 | exact Nat.zero_le _) (by first | exact hD3 | exact Nat.zero_le _)
          have hprint := Lib.hid (print_any ⟨7, P1, [], N2, 0, D3⟩ _ _ hGz.out hok (by first | (have := hP1; show 3 * P1.length ≤ _; omega) | exact Nat.zero_le _) (fun _ => by first | (have := hP2; show 3 * P2.length ≤ _; omega) | exact Nat.zero_le _) (Rd.of_own (enc := byteV) hos) (fun _ => Nat.le_trans hll (by decide)))
          clear hok hll
          go_wp2_with fail
          refine hprint.out.mono ?_
          rintro e w9 ⟨rfl, hb9⟩
          have bx9 := sx3.below hb9
          have br9 := sr3.below hb9
          have W9 := sW3.trans (hb9.mono sW3.size)
          have own9 := own_below hos hb9
          clear hb9
          have cb0 := bx9.get 0 _ rfl
          have cb1 := bx9.get 1 _ rfl
          have cb2 := bx9.get 2 _ rfl
          have cb3 := bx9.get 3 _ rfl
          have cb4 := bx9.get 4 _ rfl
          have cb5 := bx9.get 5 _ rfl
          have cr0 := br9.get 0 _ rfl
          have cr1 := br9.get 1 _ rfl
          have cr2 := br9.get 2 _ rfl
          have cr3 := br9.get 3 _ rfl
          have cr4 := br9.get 4 _ rfl
          have cr5 := br9.get 5 _ rfl
          have fr0 := br9.frozen 0
          have fr1 := br9.frozen 1
          have fr2 := br9.frozen 2
          have fr3 := br9.frozen 3
          have fr4 := br9.frozen 4
          have fr5 := br9.frozen 5
          obtain ⟨LN, hLN⟩ : ∃ LN, Tr.print ⟨7, P1, [], N2, 0, D3⟩ = LN := ⟨_, rfl⟩
          obtain ⟨LN1, LN2⟩ := LN
          rw [hLN] at hp ⊢
          dsimp only
          replace hp := Lib.hid hp
          replace hLN := Lib.hid hLN
          by_cases hq : LN2 = 0
          · by_cases hq1 : LN1 = s
            · have e2 : (LN2 != 0) = false := by simpa using hq
              have e1 : (LN1 == s) = true := by simpa using hq1
              have hfin := Lib.hid (hp.out.1 hq1 hq)
              replace hq := Lib.hid hq
              replace hq1 := Lib.hid hq1
              go_wp2_with fail
              obtain ⟨hp6, hb6⟩ := put6 br9 (.int .i64 7) (.string (S P1)) (.string ⟨#[]⟩) (.int .i64 N2) (.int .i64 0) (.slice dva D3.length dvc) W9 (by omega)
              refine bodyPost_ret (res18 hp6 rfl rfl) rfl ?_
              rw [hfin.out]
              exact ⟨_, rfl, own_base (own_put6 own9 sr2.lt _ _ _ _ _ _) (by omega), hb6⟩
            · have e2 : (LN2 != 0) = false := by simpa using hq
              have e1 : (LN1 == s) = false := by simpa using hq1
              have hfin := Lib.hid (hp.out.2 (fun h => hq1 h.1))
              replace hq := Lib.hid hq
              replace hq1 := Lib.hid hq1
              go_wp2_with fail
              obtain ⟨hp6, hb6⟩ := put6 br9 (.int .i64 0) (.string ⟨#[]⟩) (.string ⟨#[]⟩) (.int .i64 0) (.int .i64 0) (.slice none 0 0) W9 (by omega)
              refine bodyPost_ret (res18 hp6 rfl rfl) rfl ?_
              rw [hfin.out]
              exact ⟨_, rfl, World.ownsRow_nil _ _ _ _, hb6⟩
          · have e2 : (LN2 != 0) = true := by simpa using hq
            have hfin := Lib.hid (hp.out.2 (fun h => hq h.2))
            replace hq := Lib.hid hq
            go_wp2_with fail
            obtain ⟨hp6, hb6⟩ := put6 br9 (.int .i64 0) (.string ⟨#[]⟩) (.string ⟨#[]⟩) (.int .i64 0) (.int .i64 0) (.slice none 0 0) W9 (by omega)
            refine bodyPost_ret (res18 hp6 rfl rfl) rfl ?_
            rw [hfin.out]
            exact ⟨_, rfl, World.ownsRow_nil _ _ _ _, hb6⟩
        by_cases k13 : k = 13
        · subst k13
          have hnf : Tr.nf 13 = 0 := rfl
          rw [hnf] at hlen ⊢
          clear hnf
          have e1 : ((ws.length : Int) != 1) = false := by rw [bne_eq_false_iff_eq]; omega
          replace hlen := Lib.hid hlen
          have hge : 1 ≤ ws.length := by have := hlen.out; omega
          have hle1 : ws.length ≤ 1 := by have := hlen.out; omega
          have hbuild := Lib.hid (show Tr.build ws = ⟨13, [], [], 0, 0, []⟩ by unfold Tr.build; simp only [hx0, show Tr.kindOf x = 13 from hk.out]; simp only [Tr.txt, hX1, hX2, hX3, eP1, eP2, eD3, eN2, eN3]; simp)
          have hp := hpp.out _ hbuild.out
          clear hpp
          have ca0 := hbx3.get 0 _ rfl
          have ca1 := hbx3.get 1 _ rfl
          have ca2 := hbx3.get 2 _ rfl
          have ca3 := hbx3.get 3 _ rfl
          have ca4 := hbx3.get 4 _ rfl
          have ca5 := hbx3.get 5 _ rfl
          have hGz := Lib.hid (hG.out.below hW3)
          have hsz9 := hW3.size
          have hok : Opr.ok ⟨13, [], [], 0, 0, []⟩ := ⟨⟨by show _ ≤ (13 : Int); omega, by show (13 : Int) ≤ _; omega⟩, in64_zero, in64_zero⟩
          have hll := Tr.line_len ⟨13, [], [], 0, 0, []⟩ hok 1000000 (by first | exact hP1 | exact Nat.zero_le _) (by first | exact hP2 | exact Nat.zero_le _) (by first | exact hD3 | exact Nat.zero_le _)
          have hprint := Lib.hid (print_any ⟨13, [], [], 0, 0, []⟩ _ _ hGz.out hok (by first | (have := hP1; show 3 * P1.length ≤ _; omega) | exact Nat.zero_le _) (fun _ => by first | (have := hP2; show 3 * P2.length ≤ _; omega) | exact Nat.zero_le _) (Rd.nil _ _) (fun _ => Nat.le_trans hll (by decide)))
          clear hok hll
          go_wp2_with fail
          refine hprint.out.mono ?_
          rintro e w9 ⟨rfl, hb9⟩
          have bx9 := hbx3.below hb9
          have br9 := hbr3.below hb9
          have W9 := hW3.trans (hb9.mono hW3.size)
          clear hb9
          have cb0 := bx9.get 0 _ rfl
          have cb1 := bx9.get 1 _ rfl
          have cb2 := bx9.get 2 _ rfl
          have cb3 := bx9.get 3 _ rfl
          have cb4 := bx9.get 4 _ rfl
          have cb5 := bx9.get 5 _ rfl
          have cr0 := br9.get 0 _ rfl
          have cr1 := br9.get 1 _ rfl
          have cr2 := br9.get 2 _ rfl
          have cr3 := br9.get 3 _ rfl
          have cr4 := br9.get 4 _ rfl
          have cr5 := br9.get 5 _ rfl
          have fr0 := br9.frozen 0
          have fr1 := br9.frozen 1
          have fr2 := br9.frozen 2
          have fr3 := br9.frozen 3
          have fr4 := br9.frozen 4
          have fr5 := br9.frozen 5
          obtain ⟨LN, hLN⟩ : ∃ LN, Tr.print ⟨13, [], [], 0, 0, []⟩ = LN := ⟨_, rfl⟩
          obtain ⟨LN1, LN2⟩ := LN
          rw [hLN] at hp ⊢
          dsimp only
          replace hp := Lib.hid hp
          replace hLN := Lib.hid hLN
          by_cases hq : LN2 = 0
          · by_cases hq1 : LN1 = s
            · have e2 : (LN2 != 0) = false := by simpa using hq
              have e1 : (LN1 == s) = true := by simpa using hq1
              have hfin := Lib.hid (hp.out.1 hq1 hq)
              replace hq := Lib.hid hq
              replace hq1 := Lib.hid hq1
              go_wp2_with fail
              obtain ⟨hp6, hb6⟩ := put6 br9 (.int .i64 13) (.string ⟨#[]⟩) (.string ⟨#[]⟩) (.int .i64 0) (.int .i64 0) (.slice none 0 0) W9 (by omega)
              refine bodyPost_ret (res18 hp6 rfl rfl) rfl ?_
              rw [hfin.out]
              exact ⟨_, rfl, World.ownsRow_nil _ _ _ _, hb6⟩
            · have e2 : (LN2 != 0) = false := by simpa using hq
              have e1 : (LN1 == s) = false := by simpa using hq1
              have hfin := Lib.hid (hp.out.2 (fun h => hq1 h.1))
              replace hq := Lib.hid hq
              replace hq1 := Lib.hid hq1
              go_wp2_with fail
              obtain ⟨hp6, hb6⟩ := put6 br9 (.int .i64 0) (.string ⟨#[]⟩) (.string ⟨#[]⟩) (.int .i64 0) (.int .i64 0) (.slice none 0 0) W9 (by omega)
              refine bodyPost_ret (res18 hp6 rfl rfl) rfl ?_
              rw [hfin.out]
              exact ⟨_, rfl, World.ownsRow_nil _ _ _ _, hb6⟩
          · have e2 : (LN2 != 0) = true := by simpa using hq
            have hfin := Lib.hid (hp.out.2 (fun h => hq h.2))
            replace hq := Lib.hid hq
            go_wp2_with fail
            obtain ⟨hp6, hb6⟩ := put6 br9 (.int .i64 0) (.string ⟨#[]⟩) (.string ⟨#[]⟩) (.int .i64 0) (.int .i64 0) (.slice none 0 0) W9 (by omega)
            refine bodyPost_ret (res18 hp6 rfl rfl) rfl ?_
            rw [hfin.out]
            exact ⟨_, rfl, World.ownsRow_nil _ _ _ _, hb6⟩
        have q3 : (k == 3) = false := beq_eq_false_iff_ne.2 k3
        have q6 : (k == 6) = false := beq_eq_false_iff_ne.2 k6
        have q7 : (k == 7) = false := beq_eq_false_iff_ne.2 k7
        have q8 : (k == 8) = false := beq_eq_false_iff_ne.2 k8
        have q9 : (k == 9) = false := beq_eq_false_iff_ne.2 k9
        have hnf : Tr.nf k = 1 := by unfold Tr.nf; simp [k3, k6, k7, k8, k9, k13]
        rw [hnf] at hlen ⊢
        clear hnf
        have e1 : ((ws.length : Int) != 2) = false := by rw [bne_eq_false_iff_eq]; omega
        replace hlen := Lib.hid hlen
        have hge : 2 ≤ ws.length := by have := hlen.out; omega
        have hkk := Lib.hid (And.intro k3 (And.intro k6 (And.intro k7 (And.intro k8 (And.intro k9 k13)))))
        clear k3 k6 k7 k8 k9 k13
        have ct1 := tx_get htx3 1 (by omega)
        rw [hX1] at ct1
        have hsz1 := hW3.size
        go_wp2_with fail
        refine (hu1.out _).mono ?_
        rintro e wn1 ⟨rfl, hbn1⟩
        have bx1 := hbx3.below hbn1
        have tx1 := htx3.below hbn1
        have br1 := hbr3.below hbn1
        have W1 := hW3.trans (hbn1.mono hW3.size)
        have cz1 := bx1.get 0 _ rfl
        have cs1 := bx1.get 1 _ rfl
        have fs1 := bx1.frozen 1
        have sx1 : Box (wn1.setCell ⟨b2 + 1 + 1, 1, none⟩ (.string (S P1))) (b2 + 1 + 1) 44 #[(.int .i64 k), (.string (S P1)), (.string ⟨#[]⟩), (.int .i64 0), (.int .i64 0), (.slice none 0 0)] := by simpa using bx1.set 1 (.string (S P1))
        have st1 : Box (wn1.setCell ⟨b2 + 1 + 1, 1, none⟩ (.string (S P1))) (b2 + 1) 9 (ws.map strV).toArray := tx1.setFar _ _ (by show b2 + 1 + 1 ≠ b2 + 1; omega)
        have sr1 : Box (wn1.setCell ⟨b2 + 1 + 1, 1, none⟩ (.string (S P1))) b2 44 #[.int .i64 0, .string ⟨#[]⟩, .string ⟨#[]⟩, .int .i64 0, .int .i64 0, .slice none 0 0] := br1.setFar _ _ (by show b2 + 1 + 1 ≠ b2; omega)
        have sW1 : Below w.heap.size w (wn1.setCell ⟨b2 + 1 + 1, 1, none⟩ (.string (S P1))) := W1.setCell (p := ⟨b2 + 1 + 1, 1, none⟩) (by show w.heap.size ≤ b2 + 1 + 1; omega) _
        clear hbn1 ct1
        have hbuild := Lib.hid (show Tr.build ws = ⟨k, P1, [], 0, 0, []⟩ by unfold Tr.build; simp only [hx0, show Tr.kindOf x = k from hk.out]; obtain ⟨h3, h6, h7, h8, h9, h13⟩ := hkk.out; simp only [Tr.txt, hX1, eP1]; simp [h3, h6, h7, h8, h9, h13])
        have hp := hpp.out _ hbuild.out
        clear hpp
        have ca0 := sx1.get 0 _ rfl
        have ca1 := sx1.get 1 _ rfl
        have ca2 := sx1.get 2 _ rfl
        have ca3 := sx1.get 3 _ rfl
        have ca4 := sx1.get 4 _ rfl
        have ca5 := sx1.get 5 _ rfl
        have hGz := Lib.hid (hG.out.below sW1)
        have hsz9 := sW1.size
        have hok : Opr.ok ⟨k, P1, [], 0, 0, []⟩ := ⟨⟨by show _ ≤ k; omega, by show k ≤ _; omega⟩, in64_zero, in64_zero⟩
        have hll := Tr.line_len ⟨k, P1, [], 0, 0, []⟩ hok 1000000 (by first | exact hP1 | exact Nat.zero_le _) (by first | exact hP2 | exact Nat.zero_le _) (by first | exact hD3 | exact Nat.zero_le _)
        have hprint := Lib.hid (print_any ⟨k, P1, [], 0, 0, []⟩ _ _ hGz.out hok (by first | (have := hP1; show 3 * P1.length ≤ _; omega) | exact Nat.zero_le _) (fun _ => by first | (have := hP2; show 3 * P2.length ≤ _; omega) | exact Nat.zero_le _) (Rd.nil _ _) (fun _ => Nat.le_trans hll (by decide)))
        clear hok hll
        go_wp2_with fail
        refine hprint.out.mono ?_
        rintro e w9 ⟨rfl, hb9⟩
        have bx9 := sx1.below hb9
        have br9 := sr1.below hb9
        have W9 := sW1.trans (hb9.mono sW1.size)
        clear hb9
        have cb0 := bx9.get 0 _ rfl
        have cb1 := bx9.get 1 _ rfl
        have cb2 := bx9.get 2 _ rfl
        have cb3 := bx9.get 3 _ rfl
        have cb4 := bx9.get 4 _ rfl
        have cb5 := bx9.get 5 _ rfl
        have cr0 := br9.get 0 _ rfl
        have cr1 := br9.get 1 _ rfl
        have cr2 := br9.get 2 _ rfl
        have cr3 := br9.get 3 _ rfl
        have cr4 := br9.get 4 _ rfl
        have cr5 := br9.get 5 _ rfl
        have fr0 := br9.frozen 0
        have fr1 := br9.frozen 1
        have fr2 := br9.frozen 2
        have fr3 := br9.frozen 3
        have fr4 := br9.frozen 4
        have fr5 := br9.frozen 5
        obtain ⟨LN, hLN⟩ : ∃ LN, Tr.print ⟨k, P1, [], 0, 0, []⟩ = LN := ⟨_, rfl⟩
        obtain ⟨LN1, LN2⟩ := LN
        rw [hLN] at hp ⊢
        dsimp only
        replace hp := Lib.hid hp
        replace hLN := Lib.hid hLN
        by_cases hq : LN2 = 0
        · by_cases hq1 : LN1 = s
          · have e2 : (LN2 != 0) = false := by simpa using hq
            have e1 : (LN1 == s) = true := by simpa using hq1
            have hfin := Lib.hid (hp.out.1 hq1 hq)
            replace hq := Lib.hid hq
            replace hq1 := Lib.hid hq1
            go_wp2_with fail
            obtain ⟨hp6, hb6⟩ := put6 br9 (.int .i64 k) (.string (S P1)) (.string ⟨#[]⟩) (.int .i64 0) (.int .i64 0) (.slice none 0 0) W9 (by omega)
            refine bodyPost_ret (res18 hp6 rfl rfl) rfl ?_
            rw [hfin.out]
            exact ⟨_, rfl, World.ownsRow_nil _ _ _ _, hb6⟩
          · have e2 : (LN2 != 0) = false := by simpa using hq
            have e1 : (LN1 == s) = false := by simpa using hq1
            have hfin := Lib.hid (hp.out.2 (fun h => hq1 h.1))
            replace hq := Lib.hid hq
            replace hq1 := Lib.hid hq1
            go_wp2_with fail
            obtain ⟨hp6, hb6⟩ := put6 br9 (.int .i64 0) (.string ⟨#[]⟩) (.string ⟨#[]⟩) (.int .i64 0) (.int .i64 0) (.slice none 0 0) W9 (by omega)
            refine bodyPost_ret (res18 hp6 rfl rfl) rfl ?_
            rw [hfin.out]
            exact ⟨_, rfl, World.ownsRow_nil _ _ _ _, hb6⟩
        · have e2 : (LN2 != 0) = true := by simpa using hq
          have hfin := Lib.hid (hp.out.2 (fun h => hq h.2))
          replace hq := Lib.hid hq
          go_wp2_with fail
          obtain ⟨hp6, hb6⟩ := put6 br9 (.int .i64 0) (.string ⟨#[]⟩) (.string ⟨#[]⟩) (.int .i64 0) (.int .i64 0) (.slice none 0 0) W9 (by omega)
          refine bodyPost_ret (res18 hp6 rfl rfl) rfl ?_
          rw [hfin.out]
          exact ⟨_, rfl, World.ownsRow_nil _ _ _ _, hb6⟩
end Go.Proofs.YtpoongljokbgcaaDoor
