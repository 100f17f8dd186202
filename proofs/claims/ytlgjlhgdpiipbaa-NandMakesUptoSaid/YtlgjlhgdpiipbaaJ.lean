/- What a chip tells: made, there, asks, Geometry, Ops, On, Restart. -/
import Derived.Test.YtlgjlhgdpiipbaaH
namespace Go.Proofs.Ytlgjlhgdpiipbaa
open Go.RowKit
/-- A value; nothing is made. -/
def ValQ (v : Value) (w : World) (e : Ending) (w' : World) : Prop := e = .returned v ∧ w' = w
section
variable {W : World} {Fm Fr : Nat → Prop} {c : Nat} {st : Chip} {L : Lay}
theorem ChipR.c0 (h : ChipR W Fm Fr c st L) : W.cell? ⟨c, 0, none⟩ = some (.int .i64 st.bn) := h.chip.get 0 _ rfl
theorem ChipR.c1 (h : ChipR W Fm Fr c st L) : W.cell? ⟨c, 1, none⟩ = some (.int .i64 st.pn) := h.chip.get 1 _ rfl
theorem ChipR.c2 (h : ChipR W Fm Fr c st L) : W.cell? ⟨c, 2, none⟩ = some (.slice (some ⟨L.ba, 0, none⟩) st.bn L.barr.size) := h.chip.get 2 _ rfl
theorem ChipR.c3 (h : ChipR W Fm Fr c st L) : W.cell? ⟨c, 3, none⟩ = some L.ev := h.chip.get 3 _ rfl
theorem ChipR.c4 (h : ChipR W Fm Fr c st L) : W.cell? ⟨c, 4, none⟩ = some (.int .i64 st.ops) := h.chip.get 4 _ rfl
theorem ChipR.c5 (h : ChipR W Fm Fr c st L) : W.cell? ⟨c, 5, none⟩ = some (.bool st.off) := h.chip.get 5 _ rfl
end
def Chip.there (st : Chip) (n : Int) : Bool := decide (0 ≤ n ∧ n < st.bn)
theorem Chip.there_yes {st : Chip} {n : Int} (h : 0 ≤ n) (h2 : n < st.bn) : st.there n = true := decide_eq_true ⟨h, h2⟩
theorem Chip.there_no {st : Chip} {n : Int} (h : ¬ (0 ≤ n ∧ n < st.bn)) : st.there n = false := decide_eq_false h
/-- What is wrong ahead of a call on a page. -/
def Chip.asks (st : Chip) (n page : Int) : Int :=
  if st.off then 8 else if st.there n = false ∨ page < 0 ∨ (st.pn : Int) ≤ page then 22 else 0
set_option maxRecDepth 100000 in
set_option maxHeartbeats 2000000 in
theorem made_any {Fm Fr : Nat → Prop} {c : Nat} {st : Chip} {L : Lay} {w : World} (h : ChipR w Fm Fr c st L) : Calls Try.prog 36 #[.pointer (some ⟨c, 0, none⟩)] w (ValQ (.bool true) w) := by
  have h2 := h.c2
  clear h
  go_enter Try.func36, Try.ntmps36
  go_wp2_with fail
  go_ret
  exact ⟨rfl, rfl⟩
set_option maxRecDepth 100000 in
set_option maxHeartbeats 2000000 in
theorem there_any {Fm Fr : Nat → Prop} {c : Nat} {st : Chip} {L : Lay} {w : World} (h : ChipR w Fm Fr c st L) (n : Int) : Calls Try.prog 31 #[.pointer (some ⟨c, 0, none⟩), .int .i64 n] w (ValQ (.bool (st.there n)) w) := by
  have h2 := h.c2
  clear h
  have hy := Lib.hid (@Chip.there_yes st n)
  have hn := Lib.hid (@Chip.there_no st n)
  obtain ⟨t, ht⟩ : ∃ t, st.there n = t := ⟨_, rfl⟩
  rw [ht] at hy hn ⊢
  clear ht
  by_cases h0 : 0 ≤ n
  · by_cases h1 : n < st.bn
    · obtain rfl := hy.out h0 h1
      go_enter Try.func31, Try.ntmps31
      go_wp2_with fail
      go_ret
      exact ⟨rfl, rfl⟩
    · obtain rfl := hn.out (fun h => h1 h.2)
      go_enter Try.func31, Try.ntmps31
      go_wp2_with fail
      go_ret
      exact ⟨rfl, rfl⟩
  · obtain rfl := hn.out (fun h => h0 h.1)
    go_enter Try.func31, Try.ntmps31
    go_wp2_with fail
    go_ret
    exact ⟨rfl, rfl⟩
set_option maxRecDepth 100000 in
set_option maxHeartbeats 2000000 in
theorem asks_any {Fm Fr : Nat → Prop} {c : Nat} {st : Chip} {L : Lay} {w : World} (h : ChipR w Fm Fr c st L) (n page : Int) : Calls Try.prog 44 #[.pointer (some ⟨c, 0, none⟩), .int .i64 n, .int .i64 page] w (ValQ (.int .i64 (st.asks n page)) w) := by
  have h5 := h.c5
  have h1 := h.c1
  have hm := Lib.hid (made_any h)
  have ht := Lib.hid (there_any h n)
  clear h
  have ha : st.asks n page = if st.off then 8 else if st.there n = false ∨ page < 0 ∨ (st.pn : Int) ≤ page then 22 else 0 := rfl
  obtain ⟨t, htt⟩ : ∃ t, st.there n = t := ⟨_, rfl⟩
  obtain ⟨o, hoo⟩ : ∃ o, st.off = o := ⟨_, rfl⟩
  obtain ⟨a, haa⟩ : ∃ a, st.asks n page = a := ⟨_, rfl⟩
  rw [htt] at ht ha
  rw [hoo] at h5 ha
  rw [haa] at ha ⊢
  clear htt hoo haa
  rcases o with _ | _
  case true =>
    obtain rfl : a = 8 := ha
    go_enter Try.func44, Try.ntmps44
    go_wp2_with (first | (go_at_call 36; (with_reducible refine hm.out.mono ?_); rintro e w' ⟨rfl, hw⟩; obtain rfl := hw.symm))
    go_ret
    exact ⟨rfl, rfl⟩
  rcases t with _ | _
  · obtain rfl : a = 22 := by rw [ha]; simp
    clear ha
    go_enter Try.func44, Try.ntmps44
    go_wp2_with (first | (go_at_call 36; (with_reducible refine hm.out.mono ?_); rintro e w' ⟨rfl, hw⟩; obtain rfl := hw.symm) | (go_at_call 31; (with_reducible refine ht.out.mono ?_); rintro e w' ⟨rfl, hw⟩; obtain rfl := hw.symm))
    go_ret
    exact ⟨rfl, rfl⟩
  by_cases hp : page < 0
  · obtain rfl : a = 22 := by rw [ha]; simp [hp]
    clear ha
    go_enter Try.func44, Try.ntmps44
    go_wp2_with (first | (go_at_call 36; (with_reducible refine hm.out.mono ?_); rintro e w' ⟨rfl, hw⟩; obtain rfl := hw.symm) | (go_at_call 31; (with_reducible refine ht.out.mono ?_); rintro e w' ⟨rfl, hw⟩; obtain rfl := hw.symm))
    go_ret
    exact ⟨rfl, rfl⟩
  by_cases hq : (st.pn : Int) ≤ page
  · obtain rfl : a = 22 := by rw [ha]; simp [hq]
    clear ha
    have hq' : page ≥ (st.pn : Int) := hq
    go_enter Try.func44, Try.ntmps44
    go_wp2_with (first | (go_at_call 36; (with_reducible refine hm.out.mono ?_); rintro e w' ⟨rfl, hw⟩; obtain rfl := hw.symm) | (go_at_call 31; (with_reducible refine ht.out.mono ?_); rintro e w' ⟨rfl, hw⟩; obtain rfl := hw.symm))
    go_ret
    exact ⟨rfl, rfl⟩
  · obtain rfl : a = 0 := by rw [ha]; simp [hp, hq]
    clear ha
    have hq' : ¬ page ≥ (st.pn : Int) := hq
    go_enter Try.func44, Try.ntmps44
    go_wp2_with (first | (go_at_call 36; (with_reducible refine hm.out.mono ?_); rintro e w' ⟨rfl, hw⟩; obtain rfl := hw.symm) | (go_at_call 31; (with_reducible refine ht.out.mono ?_); rintro e w' ⟨rfl, hw⟩; obtain rfl := hw.symm))
    go_ret
    exact ⟨rfl, rfl⟩
set_option maxRecDepth 100000 in
set_option maxHeartbeats 2000000 in
theorem ops_any {Fm Fr : Nat → Prop} {c : Nat} {st : Chip} {L : Lay} {w : World} (h : ChipR w Fm Fr c st L) : Calls Try.prog 18 #[.pointer (some ⟨c, 0, none⟩)] w (ValQ (.int .i64 st.ops) w) := by
  have h4 := h.c4
  have hm := Lib.hid (made_any h)
  clear h
  go_enter Try.func18, Try.ntmps18
  go_wp2_with (go_at_call 36; (with_reducible refine hm.out.mono ?_); rintro e w' ⟨rfl, hw⟩; obtain rfl := hw.symm)
  go_ret
  exact ⟨rfl, rfl⟩
set_option maxRecDepth 100000 in
set_option maxHeartbeats 2000000 in
theorem on_any {Fm Fr : Nat → Prop} {c : Nat} {st : Chip} {L : Lay} {w : World} (h : ChipR w Fm Fr c st L) : Calls Try.prog 16 #[.pointer (some ⟨c, 0, none⟩)] w (ValQ (.bool (!st.off)) w) := by
  have h5 := h.c5
  have hm := Lib.hid (made_any h)
  clear h
  go_enter Try.func16, Try.ntmps16
  go_wp2_with (go_at_call 36; (with_reducible refine hm.out.mono ?_); rintro e w' ⟨rfl, hw⟩; obtain rfl := hw.symm)
  go_ret
  exact ⟨rfl, rfl⟩
set_option maxRecDepth 100000 in
theorem res13 {W : World} {b : Nat} {x y : Int} (h : Box W b 23 #[.int .i64 x, .int .i64 y]) {tmps : Array Value} (h2 : tmps.getD 2 undef = .pointer (some ⟨b, 0, none⟩)) :
    (results Try.f13 tmps).run Try.prog W = .ok (.agg #[.int .i64 x, .int .i64 y]) W := by
  have d0 := h.get 0 _ rfl
  have d1 := h.get 1 _ rfl
  simp at h2
  simp [results, Try.results13, go_sem, h2, d0, d1]
set_option maxRecDepth 100000 in
set_option maxHeartbeats 2000000 in
theorem geo_any {Fm Fr : Nat → Prop} {c : Nat} {st : Chip} {L : Lay} {w : World} (h : ChipR w Fm Fr c st L) : Calls Try.prog 13 #[.pointer (some ⟨c, 0, none⟩)] w fun e w' => e = .returned (.agg #[.int .i64 st.bn, .int .i64 st.pn]) ∧ Below w.heap.size w w' := by
  have hB := (Below.refl w.heap.size w).alloc (Nat.le_refl _) (.cells #[.int .i64 0, .int .i64 0] 23)
  have h' := h.below ((Below.refl w.heap.size w).alloc (Nat.le_refl _) (.cells #[.int .i64 0, .int .i64 0] 23))
  have h0 := h'.c0
  have h1 := h'.c1
  have hm := Lib.hid (made_any h')
  have bx := Box.new w 23 #[.int .i64 0, .int .i64 0]
  clear h h'
  obtain ⟨W0, hW0⟩ : ∃ W0, w.alloc (.cells #[.int .i64 0, .int .i64 0] 23) = W0 := ⟨_, rfl⟩
  rw [hW0] at hB h0 h1 hm bx
  have d0 := bx.get 0 _ rfl
  have d1 := bx.get 1 _ rfl
  have f0 := bx.frozen 0
  have f1 := bx.frozen 1
  have bx2 := Lib.hid (((bx.set 0 (.int .i64 st.bn)).set 1 (.int .i64 st.pn)))
  have hB2 := Lib.hid ((hB.setCell (p := ⟨w.heap.size, 0, none⟩) (Nat.le_refl _) (.int .i64 st.bn)).setCell (p := ⟨w.heap.size, 1, none⟩) (Nat.le_refl _) (.int .i64 st.pn))
  clear bx hB
  go_enter Try.func13, Try.ntmps13
  go_wp2_with (go_at_call 36; (with_reducible refine hm.out.mono ?_); rintro e w' ⟨rfl, hw⟩; obtain rfl := hw.symm)
  exact bodyPost_ret (res13 bx2.out rfl) rfl ⟨rfl, hB2.out⟩
end Go.Proofs.Ytlgjlhgdpiipbaa
