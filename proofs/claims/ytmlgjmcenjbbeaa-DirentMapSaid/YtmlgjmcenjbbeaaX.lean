/- The closures of place and Add; slices.IndexFunc. -/
import Derived.Test.YtmlgjmcenjbbeaaW
namespace Go.Proofs.Ytmlgjmcenjbbeaa
open Go.RowKit
/-- A bool; old blocks are as they were. -/
def BoolB (b : Bool) (w : World) (e : Ending) (w' : World) : Prop := e = .returned (.bool b) ∧ Below w.heap.size w w'
namespace Nm
/-- Where the first one stands; -1: there is none. -/
def idx (p : Rec → Bool) (l : List Rec) : Int := if l.any p then (l.findIdx p : Int) else -1
def isNamed (n : List UInt8) (r : Rec) : Bool := decide (r.e.ino ≠ 0) && r.e.name == n
def hasRoom (n : List UInt8) (r : Rec) : Bool := decide ((need n : Int) ≤ free r)
theorem any_take_r (p : Rec → Bool) (l : List Rec) (k : Nat) (h : k < l.length) (ht : (l.take k).any p = false) (hc : p l[k] = false) : (l.take (k + 1)).any p = false := by
  rw [List.take_succ_eq_append_getElem h, List.any_append, ht]
  simp [hc]
theorem idx_hit (p : Rec → Bool) (l : List Rec) (k : Nat) (h : k < l.length) (ht : (l.take k).any p = false) (hc : p l[k] = true) : idx p l = k := by
  unfold idx
  rw [if_pos (List.any_eq_true.2 ⟨l[k], List.getElem_mem h, hc⟩)]
  rw [(List.findIdx_eq h).2 ⟨hc, fun j hj => ?_⟩]
  have := List.any_eq_false.1 ht l[j] (by rw [List.mem_take_iff_getElem]; exact ⟨j, by omega, rfl⟩)
  simpa using this
theorem idx_none (p : Rec → Bool) (l : List Rec) (h : idx p l < 0) : l.any p = false := by
  unfold idx at h
  split at h
  · omega
  · rename_i h1; simpa using h1
theorem idx_some (p : Rec → Bool) (l : List Rec) (h : ¬ idx p l < 0) : ∃ k : Nat, ∃ hk : k < l.length, idx p l = k ∧ p l[k] = true ∧ (l.take k).any p = false := by
  unfold idx at *
  split at h
  · rename_i h1
    rw [if_pos h1]
    have hlt := List.findIdx_lt_length_of_exists (List.any_eq_true.1 h1)
    refine ⟨l.findIdx p, hlt, rfl, List.findIdx_getElem, ?_⟩
    rw [List.any_eq_false]
    intro x hx
    obtain ⟨j, hj, rfl⟩ := List.mem_take_iff_getElem.1 hx
    have := List.not_of_lt_findIdx (p := p) (xs := l) (i := j) (by omega)
    simpa using this
  · omega
end Nm
set_option maxRecDepth 100000 in
set_option maxHeartbeats 4000000 in
theorem place1_any (r : Rec) (n : List UInt8) (Bn : Nat) (w : World) (hBn : w.cell? ⟨Bn, 0, none⟩ = some (.string (S n))) (hlt : Bn < w.heap.size) : Calls Try.prog 57 #[recV r, .pointer (some ⟨Bn, 0, none⟩)] w (BoolB (Nm.isNamed n r) w) := by
  obtain ⟨ra, rl, ⟨rn, ri, rk⟩⟩ := r
  have hB := Lib.hid ((Below.refl _ w).alloc (Nat.le_refl _) (.cells #[.int .i64 ra, .int .i64 rl, .string (S rn), .int .i64 ri, .int .i64 rk] 69))
  have hne : Bn ≠ w.heap.size := by omega
  unfold recV
  dsimp only
  by_cases h0 : ri = 0
  · have hf := Lib.hid (show Nm.isNamed n ⟨ra, rl, ⟨rn, ri, rk⟩⟩ = false by unfold Nm.isNamed; simp [h0])
    have z : (ri != 0) = false := by simpa using h0
    clear h0
    go_enter Try.func57, Try.ntmps57
    go_wp2
    go_ret
    exact ⟨by rw [hf.out]; rfl, hB.out⟩
  · have hf := Lib.hid (show Nm.isNamed n ⟨ra, rl, ⟨rn, ri, rk⟩⟩ = (rn == n) by unfold Nm.isNamed; simp [h0])
    have z : (ri != 0) = true := by simpa using h0
    clear h0
    go_enter Try.func57, Try.ntmps57
    go_wp2
    go_ret
    exact ⟨by rw [hf.out]; rfl, hB.out⟩
set_option maxRecDepth 100000 in
set_option maxHeartbeats 4000000 in
theorem add1_any (r : Rec) (n : List UInt8) (Be : Nat) (w : World) (hBe : w.cell? ⟨Be, 0, none⟩ = some (.string (S n))) (hlt : Be < w.heap.size) (hn : n.length ≤ 1000000) (hrl : r.e.name.length ≤ 1000000) (hrr : -1000000 ≤ r.len ∧ r.len ≤ 1000000) :
    Calls Try.prog 47 #[recV r, .pointer (some ⟨Be, 0, none⟩)] w (BoolB (Nm.hasRoom n r) w) := by
  have hfc := Lib.hid (fun W => free_any r W (by omega) hrr)
  have hnc := Lib.hid (fun W => need_any n W (by omega))
  obtain ⟨F, hF⟩ : ∃ F, Nm.free r = F := ⟨_, rfl⟩
  obtain ⟨N, hN⟩ : ∃ N, Nm.need n = N := ⟨_, rfl⟩
  have hres : Nm.hasRoom n r = decide (F ≥ (N : Int)) := by unfold Nm.hasRoom; rw [hF, hN]
  rw [hF] at hfc
  rw [hN] at hnc
  clear hF hN
  obtain ⟨ra, rl, ⟨rn, ri, rk⟩⟩ := r
  dsimp only at hrl hrr
  obtain ⟨W1, hW1⟩ : ∃ W1, w.alloc (.cells #[.int .i64 ra, .int .i64 rl, .string (S rn), .int .i64 ri, .int .i64 rk] 69) = W1 := ⟨_, rfl⟩
  have hB1 : Below w.heap.size w W1 := by rw [← hW1]; exact (Below.refl _ w).alloc (Nat.le_refl _) _
  have hX1 : Box W1 w.heap.size 69 #[.int .i64 ra, .int .i64 rl, .string (S rn), .int .i64 ri, .int .i64 rk] := by rw [← hW1]; exact Box.new _ _ _
  have hc1 : W1.drew.cell? ⟨Be, 0, none⟩ = some (.string (S n)) := (hB1.cell (p := ⟨Be, 0, none⟩) hlt).trans hBe
  have hW1s : w.heap.size < W1.drew.heap.size := hX1.lt
  have hBs : Be < W1.drew.heap.size := Nat.lt_trans hlt hX1.lt
  have hS := Lib.hid (show ∀ w2, Below W1.drew.heap.size W1.drew w2 → Below w.heap.size w w2 from fun w2 hb => hB1.drew.trans (hb.mono hB1.size))
  unfold recV at hfc ⊢
  dsimp only at hfc ⊢
  replace hX1 := Lib.hid hX1
  clear hB1
  go_enter Try.func47, Try.ntmps47
  go_wp2
  clear hW1
  refine wp_region_noPanic ?_
  refine wp_region_held_drew (S := (fun w' => (∀ j, w'.cell? ⟨w.heap.size, j, none⟩ = (#[.int .i64 ra, .int .i64 rl, .string (S rn), .int .i64 ri, .int .i64 rk] : Array Value)[j]?) ∧ w'.cell? ⟨Be, 0, none⟩ = some (.string (S n)))) (by kernel_rfl) (⟨hX1.out.drew.cell, hc1⟩) (fun hHeld => ?_)
  refine wpAnyH_take (i := 0) (v := ?_) rfl (by kernel_rfl) (by kernel_rfl) (by kernel_rfl) (fun _ _ _ h => h) (Or.inl ⟨rfl, ?_⟩) (by assumption) ?_
  rotate_left
  · intro W hSw
    (try dsimp only at hSw)
    go_simp
    try with_reducible rfl
  try simp only [List.getElem_toArray, List.getElem_cons_zero, List.getElem_cons_succ, Act.put, List.setIfInBounds_toArray, List.set_cons_zero, List.set_cons_succ]
  refine wpAnyH_take (i := 2) (v := ?_) rfl (by kernel_rfl) (by kernel_rfl) (by kernel_rfl) (fun _ _ _ h => h) (Or.inl ⟨rfl, ?_⟩) (by assumption) ?_
  rotate_left
  · intro W hSw
    (try dsimp only at hSw)
    go_simp
    try with_reducible rfl
  try simp only [List.getElem_toArray, List.getElem_cons_zero, List.getElem_cons_succ, Act.put, List.setIfInBounds_toArray, List.set_cons_zero, List.set_cons_succ]
  refine wpAnyH_take (i := 3) (v := ?_) rfl (by kernel_rfl) (by kernel_rfl) (by kernel_rfl) (fun _ _ _ h => h) (Or.inl ⟨rfl, ?_⟩) (by assumption) ?_
  rotate_left
  · intro W hSw
    (try dsimp only at hSw)
    go_simp
    try with_reducible rfl
  try simp only [List.getElem_toArray, List.getElem_cons_zero, List.getElem_cons_succ, Act.put, List.setIfInBounds_toArray, List.set_cons_zero, List.set_cons_succ]
  refine wpAnyH_ready (rs := [1]) (by kernel_rfl) (by simp) (AllReadyH.cons rfl (fun K hK => ?_) AllReadyH.nil)
  go_simp
  refine (hfc.out _).mono ?_
  rintro e w2 ⟨rfl, hb2⟩
  have hS2 := hS.out _ hb2
  refine hK.out _ _ ⟨fun j => (hb2.cell (p := ⟨w.heap.size, j, none⟩) hW1s).trans (hX1.out.drew.cell j), (hb2.cell (p := ⟨Be, 0, none⟩) hBs).trans hc1⟩ (fun hHeld => ?_)
  clear hK
  try simp only [List.getElem_toArray, List.getElem_cons_zero, List.getElem_cons_succ, Act.put, List.setIfInBounds_toArray, List.set_cons_zero, List.set_cons_succ]
  refine wpAnyH_ready (rs := [4]) (by kernel_rfl) (by simp) (AllReadyH.cons rfl (fun K hK => ?_) AllReadyH.nil)
  go_simp
  refine (hnc.out _).mono ?_
  rintro e w' ⟨rfl, hw⟩
  obtain rfl := hw.symm
  refine hK.out _ _ hHeld (fun hHeld => ?_)
  clear hK
  try simp only [List.getElem_toArray, List.getElem_cons_zero, List.getElem_cons_succ, Act.put, List.setIfInBounds_toArray, List.set_cons_zero, List.set_cons_succ]
  refine wpAnyH_take (i := 5) (v := ?_) rfl (by kernel_rfl) (by kernel_rfl) (by kernel_rfl) (fun _ _ _ h => h) (Or.inl ⟨rfl, ?_⟩) (by assumption) ?_
  rotate_left
  · intro W hSw
    (try dsimp only at hSw)
    go_simp
    try with_reducible rfl
  try simp only [List.getElem_toArray, List.getElem_cons_zero, List.getElem_cons_succ, Act.put, List.setIfInBounds_toArray, List.set_cons_zero, List.set_cons_succ]
  refine wpAnyH_take (i := 6) (v := ?_) rfl (by kernel_rfl) (by kernel_rfl) (by kernel_rfl) (fun _ _ _ h => h) (Or.inl ⟨rfl, ?_⟩) (by assumption) ?_
  rotate_left
  · intro W hSw
    (try dsimp only at hSw)
    go_simp
    try with_reducible rfl
  try simp only [List.getElem_toArray, List.getElem_cons_zero, List.getElem_cons_succ, Act.put, List.setIfInBounds_toArray, List.set_cons_zero, List.set_cons_succ]
  refine wpAnyH_done (by kernel_rfl) ?_ _
  (try dsimp only [NoPanic])
  go_wp2_with fail
  go_ret
  exact ⟨rfl, hS2⟩
set_option maxRecDepth 100000 in
set_option maxHeartbeats 4000000 in
theorem idx57_any (p : Rec → Bool) (cp : Addr) (l : List Rec) (v : Value) (w : World) (hrd : RdR w v l) (hl : l.length ≤ 1000) (hf : ∀ r ∈ l, ∀ W, Below w.heap.size w W → Calls Try.prog 57 #[recV r, .pointer (some cp)] W (BoolB (p r) W)) :
    Calls Try.prog 46 #[v, .func (.func 57) #[] #[.pointer (some cp)]] w (NumB (Nm.idx p l) w) := by
  obtain ⟨la, lc, rfl⟩ := hrd.len
  replace hrd := Lib.hid hrd
  replace hf := Lib.hid hf
  go_enter Try.func46, Try.ntmps46
  go_wp2
  go_loopw [8] (fun i wr => ∃ k : Nat, k ≤ l.length ∧ i = .int .i64 k ∧ (l.take k).any p = false ∧ Below w.heap.size w wr) (fun i _ => l.length - (intOf i).toNat)
  case atStart => exact ⟨0, by omega, rfl, rfl, Below.refl _ _⟩
  case round =>
    obtain ⟨k, hk, rfl, hA, hW⟩ := hrel
    have hsz := hW.size
    replace hA := Lib.hid hA
    by_cases hlt : k < l.length
    · obtain ⟨bb, o, cc, hv, _, hbb, hcell⟩ := (hrd.out.below hW).at (by intro e; rw [e] at hlt; simp at hlt)
      cases hv
      have hfc := hf.out l[k] (List.getElem_mem hlt) wr hW
      have hno := Lib.hid (fun h => Nm.any_take_r p l k hlt hA.out h)
      have hyes := Lib.hid (fun h => Nm.idx_hit p l k hlt hA.out h)
      have c0 := hcell k hlt 0
      have c1 := hcell k hlt 1
      have c2 := hcell k hlt 2
      have c3 := hcell k hlt 3
      have c4 := hcell k hlt 4
      clear hcell
      obtain ⟨q, hq⟩ : ∃ q, l[k] = q := ⟨_, rfl⟩
      rw [hq] at c0 c1 c2 c3 c4 hfc hno hyes
      obtain ⟨b, hb⟩ : ∃ b, p q = b := ⟨_, rfl⟩
      rw [hb] at hfc hno hyes
      unfold recV at hfc
      obtain ⟨qa, ql, ⟨qn, qi, qk⟩⟩ := q
      replace c0 := c0 _ rfl
      replace c1 := c1 _ rfl
      replace c2 := c2 _ rfl
      replace c3 := c3 _ rfl
      replace c4 := c4 _ rfl
      dsimp only at c0 c1 c2 c3 c4 hfc
      replace c0 : wr.cell? ⟨bb, o + k * 5, none⟩ = _ := c0
      clear hq hb
      replace hfc := Lib.hid hfc
      replace hW := Lib.hid hW
      have hI0 : (0 : Int) ≤ (k : Int) := by omega
      have hI1 : (k : Int) < (l.length : Int) := by omega
      cases b
      · have hno' := Lib.hid (hno.out rfl)
        go_wp2_with (go_at_call 57; (with_reducible refine hfc.out.mono ?_); rintro e w2 ⟨rfl, hb2⟩)
        go_roundw
        case rel => exact ⟨k + 1, by omega, by go_num, hno'.out, hW.out.trans (hb2.mono hsz)⟩
        case measure => simp [intOf]; omega
      · have hyes' := Lib.hid (hyes.out rfl)
        go_wp2_with (go_at_call 57; (with_reducible refine hfc.out.mono ?_); rintro e w2 ⟨rfl, hb2⟩)
        go_ret
        exact ⟨by rw [hyes'.out]; rfl, hW.out.trans (hb2.mono hsz)⟩
    · have hk' : k = l.length := by omega
      subst hk'
      rw [List.take_length] at hA
      replace hW := Lib.hid hW
      go_wp2
      go_ret
      exact ⟨by rw [show Nm.idx p l = -1 by unfold Nm.idx; rw [hA.out]; rfl]; rfl, hW.out⟩
set_option maxRecDepth 100000 in
set_option maxHeartbeats 4000000 in
theorem idx47_any (p : Rec → Bool) (cp : Addr) (l : List Rec) (v : Value) (w : World) (hrd : RdR w v l) (hl : l.length ≤ 1000) (hf : ∀ r ∈ l, ∀ W, Below w.heap.size w W → Calls Try.prog 47 #[recV r, .pointer (some cp)] W (BoolB (p r) W)) :
    Calls Try.prog 46 #[v, .func (.func 47) #[] #[.pointer (some cp)]] w (NumB (Nm.idx p l) w) := by
  obtain ⟨la, lc, rfl⟩ := hrd.len
  replace hrd := Lib.hid hrd
  replace hf := Lib.hid hf
  go_enter Try.func46, Try.ntmps46
  go_wp2
  go_loopw [8] (fun i wr => ∃ k : Nat, k ≤ l.length ∧ i = .int .i64 k ∧ (l.take k).any p = false ∧ Below w.heap.size w wr) (fun i _ => l.length - (intOf i).toNat)
  case atStart => exact ⟨0, by omega, rfl, rfl, Below.refl _ _⟩
  case round =>
    obtain ⟨k, hk, rfl, hA, hW⟩ := hrel
    have hsz := hW.size
    replace hA := Lib.hid hA
    by_cases hlt : k < l.length
    · obtain ⟨bb, o, cc, hv, _, hbb, hcell⟩ := (hrd.out.below hW).at (by intro e; rw [e] at hlt; simp at hlt)
      cases hv
      have hfc := hf.out l[k] (List.getElem_mem hlt) wr hW
      have hno := Lib.hid (fun h => Nm.any_take_r p l k hlt hA.out h)
      have hyes := Lib.hid (fun h => Nm.idx_hit p l k hlt hA.out h)
      have c0 := hcell k hlt 0
      have c1 := hcell k hlt 1
      have c2 := hcell k hlt 2
      have c3 := hcell k hlt 3
      have c4 := hcell k hlt 4
      clear hcell
      obtain ⟨q, hq⟩ : ∃ q, l[k] = q := ⟨_, rfl⟩
      rw [hq] at c0 c1 c2 c3 c4 hfc hno hyes
      obtain ⟨b, hb⟩ : ∃ b, p q = b := ⟨_, rfl⟩
      rw [hb] at hfc hno hyes
      unfold recV at hfc
      obtain ⟨qa, ql, ⟨qn, qi, qk⟩⟩ := q
      replace c0 := c0 _ rfl
      replace c1 := c1 _ rfl
      replace c2 := c2 _ rfl
      replace c3 := c3 _ rfl
      replace c4 := c4 _ rfl
      dsimp only at c0 c1 c2 c3 c4 hfc
      replace c0 : wr.cell? ⟨bb, o + k * 5, none⟩ = _ := c0
      clear hq hb
      replace hfc := Lib.hid hfc
      replace hW := Lib.hid hW
      have hI0 : (0 : Int) ≤ (k : Int) := by omega
      have hI1 : (k : Int) < (l.length : Int) := by omega
      cases b
      · have hno' := Lib.hid (hno.out rfl)
        go_wp2_with (go_at_call 47; (with_reducible refine hfc.out.mono ?_); rintro e w2 ⟨rfl, hb2⟩)
        go_roundw
        case rel => exact ⟨k + 1, by omega, by go_num, hno'.out, hW.out.trans (hb2.mono hsz)⟩
        case measure => simp [intOf]; omega
      · have hyes' := Lib.hid (hyes.out rfl)
        go_wp2_with (go_at_call 47; (with_reducible refine hfc.out.mono ?_); rintro e w2 ⟨rfl, hb2⟩)
        go_ret
        exact ⟨by rw [hyes'.out]; rfl, hW.out.trans (hb2.mono hsz)⟩
    · have hk' : k = l.length := by omega
      subst hk'
      rw [List.take_length] at hA
      replace hW := Lib.hid hW
      go_wp2
      go_ret
      exact ⟨by rw [show Nm.idx p l = -1 by unfold Nm.idx; rw [hA.out]; rfl]; rfl, hW.out⟩
end Go.Proofs.Ytmlgjmcenjbbeaa
