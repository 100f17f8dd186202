import Derived.Test.YtpoongljokbgcaaDoorScd
import Derived.Test.YtpoongljokbgcaaDoorSce
import Derived.Test.YtpoongljokbgcaaDoorScf
/- The reference's small functions: a kind's word, which fields a kind has, a number's digits. -/
namespace Go.Proofs.YtpoongljokbgcaaDoor
open Go.RowKit
set_option maxHeartbeats 4000000 in
theorem wordr_any (k : Int) (w : World) :
    Calls Tryd.prog 59 #[.int .i64 k] w fun e w' => e = .returned (.string (S (Tr.word k))) ∧ w = w' := by
  by_cases hk : 1 ≤ k ∧ k ≤ 13
  · obtain ⟨h1, h2⟩ := hk
    rcases (by omega : k = 1 ∨ k = 2 ∨ k = 3 ∨ k = 4 ∨ k = 5 ∨ k = 6 ∨ k = 7 ∨ k = 8 ∨ k = 9 ∨ k = 10 ∨ k = 11 ∨ k = 12 ∨ k = 13) with rfl | rfl | rfl | rfl | rfl | rfl | rfl | rfl | rfl | rfl | rfl | rfl | rfl
    all_goals
      clear h1 h2
      go_enter Tryd.func59, Tryd.ntmps59
      go_wp2_with fail
      go_ret
      exact ⟨rfl, rfl⟩
  · have hfin := Lib.hid (show Tr.word k = [] by unfold Tr.word; rw [if_neg hk])
    have e1 : (k == 1) = false := beq_eq_false_iff_ne.2 (by omega)
    have e2 : (k == 2) = false := beq_eq_false_iff_ne.2 (by omega)
    have e3 : (k == 3) = false := beq_eq_false_iff_ne.2 (by omega)
    have e4 : (k == 4) = false := beq_eq_false_iff_ne.2 (by omega)
    have e5 : (k == 5) = false := beq_eq_false_iff_ne.2 (by omega)
    have e6 : (k == 6) = false := beq_eq_false_iff_ne.2 (by omega)
    have e7 : (k == 7) = false := beq_eq_false_iff_ne.2 (by omega)
    have e8 : (k == 8) = false := beq_eq_false_iff_ne.2 (by omega)
    have e9 : (k == 9) = false := beq_eq_false_iff_ne.2 (by omega)
    have e10 : (k == 10) = false := beq_eq_false_iff_ne.2 (by omega)
    have e11 : (k == 11) = false := beq_eq_false_iff_ne.2 (by omega)
    have e12 : (k == 12) = false := beq_eq_false_iff_ne.2 (by omega)
    have e13 : (k == 13) = false := beq_eq_false_iff_ne.2 (by omega)
    clear hk
    go_enter Tryd.func59, Tryd.ntmps59
    go_wp2_with fail
    go_ret
    exact ⟨by rw [hfin.out]; rfl, rfl⟩
theorem hasTo_any (k : Int) (w : World) (b : Bool) (h : b = true ↔ k = 3 ∨ k = 6) :
    Calls Tryd.prog 60 #[.int .i64 k] w fun e w' => e = .returned (.bool b) ∧ w = w' := by
  by_cases h3 : k = 3
  · obtain rfl : b = true := h.2 (.inl h3)
    subst h3; clear h
    go_enter Tryd.func60, Tryd.ntmps60
    go_wp2_with fail
    go_ret
    exact ⟨rfl, rfl⟩
  have e3 : (k == 3) = false := beq_eq_false_iff_ne.2 h3
  by_cases h6 : k = 6
  · obtain rfl : b = true := h.2 (.inr h6)
    subst h6; clear h h3
    go_enter Tryd.func60, Tryd.ntmps60
    go_wp2_with fail
    go_ret
    exact ⟨rfl, rfl⟩
  have e6 : (k == 6) = false := beq_eq_false_iff_ne.2 h6
  obtain rfl : b = false := by cases b; rfl; rcases h.1 rfl with e | e; exact absurd e h3; exact absurd e h6
  clear h h3 h6
  go_enter Tryd.func60, Tryd.ntmps60
  go_wp2_with fail
  go_ret
  exact ⟨rfl, rfl⟩
theorem hasOff_any (k : Int) (w : World) (b : Bool) (h : b = true ↔ k = 7 ∨ k = 9) :
    Calls Tryd.prog 61 #[.int .i64 k] w fun e w' => e = .returned (.bool b) ∧ w = w' := by
  by_cases h3 : k = 7
  · obtain rfl : b = true := h.2 (.inl h3)
    subst h3; clear h
    go_enter Tryd.func61, Tryd.ntmps61
    go_wp2_with fail
    go_ret
    exact ⟨rfl, rfl⟩
  have e3 : (k == 7) = false := beq_eq_false_iff_ne.2 h3
  by_cases h6 : k = 9
  · obtain rfl : b = true := h.2 (.inr h6)
    subst h6; clear h h3
    go_enter Tryd.func61, Tryd.ntmps61
    go_wp2_with fail
    go_ret
    exact ⟨rfl, rfl⟩
  have e6 : (k == 9) = false := beq_eq_false_iff_ne.2 h6
  obtain rfl : b = false := by cases b; rfl; rcases h.1 rfl with e | e; exact absurd e h3; exact absurd e h6
  clear h h3 h6
  go_enter Tryd.func61, Tryd.ntmps61
  go_wp2_with fail
  go_ret
  exact ⟨rfl, rfl⟩
theorem hasLen_any (k : Int) (w : World) (b : Bool) (h : b = true ↔ k = 8 ∨ k = 9) :
    Calls Tryd.prog 63 #[.int .i64 k] w fun e w' => e = .returned (.bool b) ∧ w = w' := by
  by_cases h3 : k = 8
  · obtain rfl : b = true := h.2 (.inl h3)
    subst h3; clear h
    go_enter Tryd.func63, Tryd.ntmps63
    go_wp2_with fail
    go_ret
    exact ⟨rfl, rfl⟩
  have e3 : (k == 8) = false := beq_eq_false_iff_ne.2 h3
  by_cases h6 : k = 9
  · obtain rfl : b = true := h.2 (.inr h6)
    subst h6; clear h h3
    go_enter Tryd.func63, Tryd.ntmps63
    go_wp2_with fail
    go_ret
    exact ⟨rfl, rfl⟩
  have e6 : (k == 9) = false := beq_eq_false_iff_ne.2 h6
  obtain rfl : b = false := by cases b; rfl; rcases h.1 rfl with e | e; exact absurd e h3; exact absurd e h6
  clear h h3 h6
  go_enter Tryd.func63, Tryd.ntmps63
  go_wp2_with fail
  go_ret
  exact ⟨rfl, rfl⟩
theorem below_grow (w : World) (k : Nat) (os : Array Obj) : Below w.heap.size w (Go.Sort.grow (w.drewN k) os) := by
  refine ⟨rfl, rfl, rfl, ?_, fun i hi => ?_⟩
  · show w.heap.size ≤ (w.heap ++ os).size
    simp
  · show (w.heap ++ os)[i]? = w.heap[i]?
    rw [Array.getElem?_append_left hi]
/-- The table that the library's FormatInt reads. -/
def Pw (w : World) : Prop := 1 < w.heap.size ∧ Lib.TabIs Tryd.prog w "internal/strconv.uint64pow10" .u64 Lib.pow10Tab
theorem numr_any (n : Int) (w : World) (hP : Pw w) (h : in64 n) :
    Calls Tryd.prog 62 #[.int .i64 n] w (TextBelow (Lib.itoa n) w) := by
  have hc := Tryd.strconv_FormatInt_10 n h.1 h.2 w hP.2
  replace hc := Lib.hid hc
  clear hP h
  go_enter Tryd.func62, Tryd.ntmps62
  go_wp2_with fail
  refine hc.out.mono ?_
  rintro e w1 ⟨rfl, kk, os, rfl⟩
  go_wp2_with fail
  go_ret
  exact ⟨rfl, below_grow w kk os⟩
theorem Pw.below {w w' : World} (h : Pw w) (hb : Below w.heap.size w w') : Pw w' := by
  refine ⟨Nat.lt_of_lt_of_le h.1 hb.size, ?_⟩
  have h2 := h.2
  have hg : Tryd.prog.globalNamed "internal/strconv.uint64pow10" = some 1 := by kernel_rfl
  unfold Lib.TabIs World.var? at *
  rw [hg] at h2 ⊢
  simp only [Option.bind_some] at h2 ⊢
  rw [hb.block 1 h.1]
  exact h2
end Go.Proofs.YtpoongljokbgcaaDoor
/- The reference's kind of a word (slipwayref27.kind). -/
namespace Go.Proofs.YtpoongljokbgcaaDoor
open Go.RowKit
/-- the first kind from k on that has this word -/
theorem word_inj (a b : Nat) (h1 : 1 ≤ a) (h2 : a ≤ 13) (h3 : 1 ≤ b) (h4 : b ≤ 13) (h : Tr.word a = Tr.word b) : a = b := by
  have : ∀ a : Fin 14, ∀ b : Fin 14, 1 ≤ a.val → 1 ≤ b.val → Tr.word (a.val : Int) = Tr.word (b.val : Int) → a = b := by decide
  exact congrArg Fin.val (this ⟨a, by omega⟩ ⟨b, by omega⟩ h1 h3 h)
theorem kindN_succ (x : List UInt8) (n : Nat) : Tr.kindN x (n + 1) = if Tr.word ((n + 1 : Nat) : Int) = x then ((n + 1 : Nat) : Int) else Tr.kindN x n := rfl
theorem kindN_none (x : List UInt8) (n : Nat) (h : ∀ k : Nat, 1 ≤ k → k ≤ n → Tr.word k ≠ x) : Tr.kindN x n = 0 := by
  induction n with
  | zero => rfl
  | succ n ih =>
    rw [kindN_succ, if_neg (h (n + 1) (by omega) (Nat.le_refl _)), ih (fun k h1 h2 => h k h1 (by omega))]
theorem kindN_at (x : List UInt8) (k : Nat) (h1 : 1 ≤ k) (h : Tr.word k = x) : ∀ n, k ≤ n → n ≤ 13 → Tr.kindN x n = k := by
  intro n
  induction n with
  | zero => intro h; omega
  | succ n ih =>
    intro hk hn
    rw [kindN_succ]
    by_cases he : k = n + 1
    · subst he; rw [if_pos h]
    · rw [if_neg (fun e => he (word_inj k (n + 1) h1 (by omega) (by omega) hn (h.trans e.symm))), ih (by omega) (by omega)]
set_option maxRecDepth 100000 in
theorem kindr_any (x : List UInt8) (w : World) :
    Calls Tryd.prog 66 #[.string (S x)] w fun e w' => e = .returned (.int .i64 (Tr.kindOf x)) ∧ w = w' := by
  go_enter Tryd.func66, Tryd.ntmps66
  go_wp2_with fail
  go_loopw [3] (fun k wr => ∃ i : Nat, 1 ≤ i ∧ i ≤ 14 ∧ k = .int .i64 i ∧ (∀ j : Nat, 1 ≤ j → j < i → Tr.word j ≠ x) ∧ wr = w)
    (fun k _ => 14 - (intOf k).toNat)
  case atStart => exact ⟨1, by omega, by omega, rfl, fun j h1 h2 => by omega, rfl⟩
  case round =>
    obtain ⟨i, h1, h14, rfl, hno, rfl⟩ := hrel
    replace hno := Lib.hid hno
    by_cases hle : i ≤ 13
    · by_cases hx : Tr.word i = x
      · have hfin := Lib.hid (show Tr.kindOf x = i from kindN_at x i h1 hx 13 hle (Nat.le_refl _))
        obtain ⟨y, hy⟩ : ∃ y, Tr.word (i : Int) = y := ⟨_, rfl⟩
        have hyx : (y == x) = true := by rw [← hy]; simpa using hx
        have hC := wordr_any i wr
        rw [hy] at hC
        clear hx
        replace hy := Lib.hid hy
        replace hC := Lib.hid hC
        go_wp2_with fail
        refine hC.out.mono ?_
        rintro e w' ⟨rfl, rfl⟩
        go_wp2_with fail
        go_ret
        exact ⟨by rw [hfin.out]; rfl, rfl⟩
      · obtain ⟨y, hy⟩ : ∃ y, Tr.word (i : Int) = y := ⟨_, rfl⟩
        have hyx : (y == x) = false := by rw [← hy]; simpa using hx
        have hC := wordr_any i wr
        rw [hy] at hC
        have hnx := Lib.hid (show ∀ j : Nat, 1 ≤ j → j < i + 1 → Tr.word j ≠ x from fun j h1 h2 => by
          by_cases he : j = i
          · subst he; exact hx
          · exact hno.out j h1 (by omega))
        clear hx
        replace hy := Lib.hid hy
        replace hC := Lib.hid hC
        go_wp2_with fail
        refine hC.out.mono ?_
        rintro e w' ⟨rfl, rfl⟩
        go_wp2_with fail
        go_roundw
        case rel => exact ⟨i + 1, by omega, by omega, by go_num, hnx.out, trivial⟩
        case measure => simp [intOf]; omega
    · obtain rfl : i = 14 := by omega
      have hfin := Lib.hid (show Tr.kindOf x = 0 from kindN_none x 13 (fun k h1 h2 => hno.out k h1 (by omega)))
      go_wp2_with fail
      go_ret
      exact ⟨by rw [hfin.out]; rfl, rfl⟩
end Go.Proofs.YtpoongljokbgcaaDoor
/- Plain law: the reference's reading of a line, word by word, gives what the program's reading gives. -/
namespace Go.Proofs.YtpoongljokbgcaaDoor
namespace Tr
/-- a call without what its kind does not use -/
def plain (o : Opr) : Opr :=
  { kind := o.kind, path := if (1 ≤ o.kind ∧ o.kind ≤ 13) ∧ o.kind ≠ 13 then o.path else [], dest := if o.kind = 3 ∨ o.kind = 6 then o.dest else [],
    off := if o.kind = 7 ∨ o.kind = 9 then o.off else 0, len := if o.kind = 8 ∨ o.kind = 9 then o.len else 0, data := if o.kind = 7 then o.data else [] }
/-- a reading under way: the call so far, the words that are left, whether all was well -/
structure St where
  op : Opr
  ws : List (List UInt8)
  ok : Bool
def St.step (c : Bool) (f : Opr → List UInt8 → Opr × Bool) (s : St) : St :=
  if s.ok && c then (match s.ws with | [] => s | x :: r => ⟨(f s.op x).1, r, (f s.op x).2⟩) else s
def fPath (o : Opr) (x : List UInt8) : Opr × Bool := ({ o with path := (unq x).getD [] }, (unq x).isSome)
def fTo (o : Opr) (x : List UInt8) : Opr × Bool := ({ o with dest := (unq x).getD [] }, (unq x).isSome)
def fOff (o : Opr) (x : List UInt8) : Opr × Bool := ({ o with off := (pnum x).1 }, (pnum x).2)
def fLen (o : Opr) (x : List UInt8) : Opr × Bool := ({ o with len := (pnum x).1 }, (pnum x).2)
def fData (o : Opr) (x : List UInt8) : Opr × Bool := ({ o with data := (unhexesX x).getD [] }, (unhexesX x).isSome)
def sPath (s : St) : St := s.step (decide (s.op.kind ≠ 13)) fPath
def sTo (s : St) : St := s.step (decide (s.op.kind = 3 ∨ s.op.kind = 6)) fTo
def sOff (s : St) : St := s.step (decide (s.op.kind = 7 ∨ s.op.kind = 9)) fOff
def sLen (s : St) : St := s.step (decide (s.op.kind = 8 ∨ s.op.kind = 9)) fLen
def sData (s : St) : St := s.step (decide (s.op.kind = 7)) fData
def st0 (line : List UInt8) : St :=
  let ws := spl 32 line
  ⟨⟨kindOf (ws.getD 0 []), [], [], 0, 0, []⟩, ws.drop 1, decide (kindOf (ws.getD 0 []) ≠ 0)⟩
def stAll (line : List UInt8) : St := sData (sLen (sOff (sTo (sPath (st0 line)))))
def parseR (line : List UInt8) : Option Opr :=
  let s := stAll line
  if s.ok = true ∧ s.ws = [] ∧ print s.op = (line, 0) then some s.op else none
structure St.fit (s : St) : Prop where
  pl : plain s.op = s.op
  in_ : s.op.ok
  kd : s.ok = true → 1 ≤ s.op.kind ∧ s.op.kind ≤ 13
theorem step_fit {s : St} {c : Bool} {f : Opr → List UInt8 → Opr × Bool} (h : s.fit)
    (hf : ∀ x, c = true → 1 ≤ s.op.kind → s.op.kind ≤ 13 → (f s.op x).1.kind = s.op.kind ∧ plain (f s.op x).1 = (f s.op x).1 ∧ (f s.op x).1.ok) : (s.step c f).fit := by
  unfold St.step
  by_cases hc : (s.ok && c) = true
  · rw [if_pos hc]
    simp only [Bool.and_eq_true] at hc
    obtain ⟨hk1, hk2⟩ := h.kd hc.1
    split
    · exact h
    · rename_i x r _
      obtain ⟨e1, e2, e3⟩ := hf x hc.2 hk1 hk2
      exact ⟨e2, e3, fun _ => by show 1 ≤ (f s.op x).1.kind ∧ _; rw [e1]; exact ⟨hk1, hk2⟩⟩
  · rw [if_neg hc]; exact h
theorem plain_ext {o p : Opr} (hk : p.kind = o.kind) (h1 : p.path = if (1 ≤ o.kind ∧ o.kind ≤ 13) ∧ o.kind ≠ 13 then p.path else []) (h2 : p.dest = if o.kind = 3 ∨ o.kind = 6 then p.dest else [])
    (h3 : p.off = if o.kind = 7 ∨ o.kind = 9 then p.off else 0) (h4 : p.len = if o.kind = 8 ∨ o.kind = 9 then p.len else 0) (h5 : p.data = if o.kind = 7 then p.data else []) : plain p = p := by
  obtain ⟨k, a, b, c, d, e⟩ := p
  simp only at hk h1 h2 h3 h4 h5
  unfold plain
  simp only [hk, Opr.mk.injEq, true_and]
  exact ⟨h1.symm, h2.symm, h3.symm, h4.symm, h5.symm⟩
theorem plain_inv {o : Opr} (h : plain o = o) : o.path = (if (1 ≤ o.kind ∧ o.kind ≤ 13) ∧ o.kind ≠ 13 then o.path else []) ∧ o.dest = (if o.kind = 3 ∨ o.kind = 6 then o.dest else []) ∧
    o.off = (if o.kind = 7 ∨ o.kind = 9 then o.off else 0) ∧ o.len = (if o.kind = 8 ∨ o.kind = 9 then o.len else 0) ∧ o.data = (if o.kind = 7 then o.data else []) := by
  obtain ⟨k, a, b, c, d, e⟩ := o
  unfold plain at h
  simp only [Opr.mk.injEq, true_and] at h
  exact ⟨h.1.symm, h.2.1.symm, h.2.2.1.symm, h.2.2.2.1.symm, h.2.2.2.2.symm⟩
theorem kindN_le (x : List UInt8) (n : Nat) : 0 ≤ kindN x n ∧ kindN x n ≤ n := kindN_range x n
theorem st0_fit (line : List UInt8) : (st0 line).fit := by
  have hk := kindN_range ((spl 32 line).getD 0 []) 13
  refine ⟨?_, ⟨⟨?_, ?_⟩, in64_zero, in64_zero⟩, fun h => ?_⟩
  · exact plain_ext rfl (by simp [st0]) (by simp [st0]) (by simp [st0]) (by simp [st0]) (by simp [st0])
  · show -9223372036854775808 ≤ kindN _ 13; omega
  · show kindN _ 13 ≤ 9223372036854775807; omega
  · simp only [st0, ne_eq, decide_not, Bool.not_eq_true', decide_eq_false_iff_not] at h
    show 1 ≤ kindN _ 13 ∧ kindN _ 13 ≤ 13
    change ¬ kindN _ 13 = 0 at h
    omega
theorem all_fit (line : List UInt8) : (stAll line).fit := by
  unfold stAll
  have h0 := st0_fit line
  have h1 : (sPath (st0 line)).fit := step_fit h0 fun x hc k1 k2 => by
    obtain ⟨a, b, c, d, e⟩ := plain_inv h0.pl
    have hc : (st0 line).op.kind ≠ 13 := of_decide_eq_true hc
    exact ⟨rfl, plain_ext rfl (if_pos ⟨⟨k1, k2⟩, hc⟩).symm b c d e, h0.in_⟩
  have h2 : (sTo (sPath (st0 line))).fit := step_fit h1 fun x hc k1 k2 => by
    obtain ⟨a, b, c, d, e⟩ := plain_inv h1.pl
    have hc := of_decide_eq_true hc
    exact ⟨rfl, plain_ext rfl a (if_pos hc).symm c d e, h1.in_⟩
  have h3 : (sOff (sTo (sPath (st0 line)))).fit := step_fit h2 fun x hc k1 k2 => by
    obtain ⟨a, b, c, d, e⟩ := plain_inv h2.pl
    have hc := of_decide_eq_true hc
    exact ⟨rfl, plain_ext rfl a b (if_pos hc).symm d e, ⟨h2.in_.1, pnum_in x, h2.in_.2.2⟩⟩
  have h4 : (sLen (sOff (sTo (sPath (st0 line))))).fit := step_fit h3 fun x hc k1 k2 => by
    obtain ⟨a, b, c, d, e⟩ := plain_inv h3.pl
    have hc := of_decide_eq_true hc
    exact ⟨rfl, plain_ext rfl a b c (if_pos hc).symm e, ⟨h3.in_.1, h3.in_.2.1, pnum_in x⟩⟩
  exact step_fit h4 fun x hc k1 k2 => by
    obtain ⟨a, b, c, d, e⟩ := plain_inv h4.pl
    have hc := of_decide_eq_true hc
    exact ⟨rfl, plain_ext rfl a b c d (if_pos hc).symm, h4.in_⟩
theorem word32 (k : Int) : (32 : UInt8) ∉ word k := by
  by_cases h : 1 ≤ k ∧ k ≤ 13
  · unfold word
    rw [if_pos h]
    obtain ⟨j, hj, hj2⟩ : ∃ j, (k - 1).toNat = j ∧ j < 13 := ⟨_, rfl, by omega⟩
    rw [hj]
    have : ∀ j, j < 13 → (32 : UInt8) ∉ wds.getD j [] := by decide
    exact this j hj2
  · unfold word; rw [if_neg h]; simp
theorem quo32 (l : List UInt8) : (32 : UInt8) ∉ quo l := no32 _ fun d h => (quo_mem l d h).1
theorem hexes32 (l : List UInt8) : (32 : UInt8) ∉ hexes l := no32 _ fun d h => by have := hexes_mem l d h; omega
theorem fields32 (o : Opr) : ∀ y ∈ fields o, (32 : UInt8) ∉ y := by
  have a := quo32 o.path
  have b := quo32 o.dest
  have c := itoa32 o.off
  have d := itoa32 o.len
  have e := hexes32 o.data
  intro y hy
  unfold fields at hy
  split at hy
  · simp only [List.mem_cons, List.not_mem_nil, or_false] at hy; rcases hy with rfl | rfl <;> assumption
  split at hy
  · simp only [List.mem_cons, List.not_mem_nil, or_false] at hy; rcases hy with rfl | rfl | rfl <;> assumption
  split at hy
  · simp only [List.mem_cons, List.not_mem_nil, or_false] at hy; rcases hy with rfl | rfl <;> assumption
  split at hy
  · simp only [List.mem_cons, List.not_mem_nil, or_false] at hy; rcases hy with rfl | rfl | rfl <;> assumption
  split at hy
  · simp at hy
  · simp only [List.mem_cons, List.not_mem_nil, or_false] at hy; subst hy; assumption
theorem spl_print {o : Opr} {line : List UInt8} (h : print o = (line, 0)) : spl 32 line = word o.kind :: fields o ∧ 1 ≤ o.kind ∧ o.kind ≤ 13 := by
  unfold print at h
  split at h
  · simp at h
  · rename_i hw
    rw [word_nil] at hw
    split at h
    · simp at h
    · simp only [Prod.mk.injEq, and_true] at h
      subst h
      exact ⟨spl_join 32 _ _ (word32 _) (fields32 o), by omega⟩
theorem kindOf_word (k : Int) (h1 : 1 ≤ k) (h2 : k ≤ 13) : kindOf (word k) = k := by
  obtain ⟨n, rfl⟩ := Int.eq_ofNat_of_zero_le (by omega : 0 ≤ k)
  exact kindN_at _ n (by omega) rfl 13 (by omega) (Nat.le_refl _)
theorem unq_quo' (l : List UInt8) : (unq (quo l)).getD [] = l := by rw [unq_quo]; rfl
theorem back_op {o : Opr} (hp : plain o = o) (ho : o.ok) (h1 : 1 ≤ o.kind) (h2 : o.kind ≤ 13) : build (word o.kind :: fields o) = o ∧ (word o.kind :: fields o).length = 1 + nf o.kind ∧
    sData (sLen (sOff (sTo (sPath ⟨⟨o.kind, [], [], 0, 0, []⟩, fields o, true⟩)))) = ⟨o, [], true⟩ := by
  have hk := kindOf_word o.kind h1 h2
  have hq := unq_quo o.path
  have hq2 := unq_quo o.dest
  have hh := unhexes_hexes o.data
  have hn1 := pnum_itoa o.off ho.2.1
  have hn2 := pnum_itoa o.len ho.2.2
  obtain ⟨a, b, c, d, e⟩ := plain_inv hp
  clear hp ho
  obtain ⟨k, p, t, f, n, l⟩ := o
  simp only at *
  have hkk : k = 1 ∨ k = 2 ∨ k = 3 ∨ k = 4 ∨ k = 5 ∨ k = 6 ∨ k = 7 ∨ k = 8 ∨ k = 9 ∨ k = 10 ∨ k = 11 ∨ k = 12 ∨ k = 13 := by omega
  clear h1 h2
  rcases hkk with rfl | rfl | rfl | rfl | rfl | rfl | rfl | rfl | rfl | rfl | rfl | rfl | rfl
  all_goals
    simp at a b c d e
    subst_vars
    simp [build, fields, nf, txt, sPath, sTo, sOff, sLen, sData, St.step, fPath, fTo, fOff, fLen, fData, *]
theorem parse_eq (line : List UInt8) : parseR line = parse line := by
  by_cases hx : ∃ o, plain o = o ∧ o.ok ∧ print o = (line, 0)
  · obtain ⟨o, hp, ho, h⟩ := hx
    obtain ⟨hs, h1, h2⟩ := spl_print h
    obtain ⟨hb, hl, hst⟩ := back_op hp ho h1 h2
    have hk := kindOf_word o.kind h1 h2
    have e1 : parse line = some o := by
      unfold parse
      simp only [hs, List.getD_cons_zero, hk, hb, h]
      rw [if_neg (by omega), if_pos trivial]
    have e2 : stAll line = ⟨o, [], true⟩ := by
      unfold stAll st0
      simp only [hs, List.getD_cons_zero, hk, List.drop_succ_cons, List.drop_zero]
      rw [show decide (o.kind ≠ 0) = true from decide_eq_true (by omega)]
      exact hst
    rw [e1]
    unfold parseR
    simp only [e2, h, and_self, if_true]
  · have e1 : parseR line = none := by
      unfold parseR
      simp only
      rw [if_neg]
      rintro ⟨-, -, h⟩
      exact hx ⟨_, (all_fit line).pl, (all_fit line).in_, h⟩
    have e2 : parse line = none := by
      unfold parse
      simp only
      split
      · rfl
      · rename_i hc
        rw [if_neg]
        intro h
        refine hx ⟨_, ?_, ?_, h⟩
        · have hr := kindN_range ((spl 32 line).getD 0 []) 13
          have hk : (build (spl 32 line)).kind = kindN ((spl 32 line).getD 0 []) 13 := rfl
          obtain ⟨k, hk'⟩ : ∃ k, kindN ((spl 32 line).getD 0 []) 13 = k := ⟨_, rfl⟩
          have hne : k ≠ 0 := fun e => hc (.inl (by show kindN _ 13 = 0; omega))
          refine plain_ext rfl ?_ ?_ ?_ ?_ ?_
          all_goals
            rw [hk, hk']
            simp only [build, kindOf, hk']
            rw [hk'] at hr
          · by_cases h13 : k = 13
            · simp [h13]
            · rw [if_pos (by omega : (1 ≤ k ∧ k ≤ 13) ∧ k ≠ 13)]
          · split <;> rfl
          · split <;> rfl
          · by_cases h8 : k = 8
            · simp [h8]
            · by_cases h9 : k = 9
              · simp [h9]
              · simp [h8, h9]
          · split <;> rfl
        · refine ⟨?_, ?_, ?_⟩
          · have hr := kindN_range ((spl 32 line).getD 0 []) 13
            show in64 (kindN _ 13)
            exact ⟨by omega, by omega⟩
          · show in64 (if _ then _ else _)
            split
            · exact pnum_in _
            · exact in64_zero
          · show in64 (if _ then _ else _)
            split
            · exact pnum_in _
            · split
              · exact pnum_in _
              · exact in64_zero
    rw [e1, e2]
end Tr
end Go.Proofs.YtpoongljokbgcaaDoor
/- Plain laws: the text of calls, the calls of a text, and there and back. -/
namespace Go.Proofs.YtpoongljokbgcaaDoor
namespace Tr
/-- a call's line and a newline behind it, as far as there is room -/
def addT (b : List UInt8) (o : Opr) : List UInt8 := if b.length ≤ 65536 then b ++ ((print o).1 ++ [10]) else b
/-- the text of calls, from the k-th on, b being what is there -/
def textF : Nat → List UInt8 → List Opr → List UInt8 × Int × Int
  | k, b, [] => if 65536 < b.length then ([], (k : Int), 3) else (b, (k : Int), 0)
  | k, b, o :: r => if (print o).2 ≠ 0 then ([], (k : Int), (print o).2) else textF (k + 1) (addT b o) r
def text (xs : List Opr) : List UInt8 × Int × Int := textF 0 [] xs
def nl (t : List UInt8) : Bool := [10].isSuffixOf t
/-- the calls of lines, acc being those so far; t is the whole text -/
def scrF (t : List UInt8) : List Opr → List (List UInt8) → List Opr × Int × Int
  | acc, [] => if t ≠ [] ∧ nl t = false then ([], (acc.length : Int), 270) else (acc, (acc.length : Int), 0)
  | acc, x :: r => match parse x with
    | none => ([], (acc.length : Int) + 1, 270)
    | some o => scrF t (acc ++ [o]) r
def script (t : List UInt8) : List Opr × Int × Int := if 65536 < t.length then ([], 0, 3) else scrF t [] (lns t)
/-- the reference's way -/
def scrR (t : List UInt8) : List Opr → List (List UInt8) → List Opr × Int × Int
  | acc, [] => (acc, (acc.length : Int), 0)
  | acc, x :: r => match parse x with
    | none => ([], (acc.length : Int) + 1, 270)
    | some o => if r = [] ∧ nl t = false then ([], (acc.length : Int) + 1, 270) else scrR t (acc ++ [o]) r
theorem scrR_eq (t : List UInt8) (ht : t ≠ []) (l : List (List UInt8)) : ∀ acc, (l = [] → nl t = true) → scrR t acc l = scrF t acc l := by
  induction l with
  | nil =>
    intro acc h
    unfold scrR scrF
    rw [if_neg]
    rintro ⟨_, h2⟩
    rw [h rfl] at h2; cases h2
  | cons x r ih =>
    intro acc _
    unfold scrR scrF
    cases parse x with
    | none => rfl
    | some o =>
      dsimp only
      by_cases hc : r = [] ∧ nl t = false
      · rw [if_pos hc]
        obtain ⟨rfl, hn⟩ := hc
        unfold scrF
        rw [if_pos ⟨ht, hn⟩]; simp
      · rw [if_neg hc]
        refine ih _ fun h1 => ?_
        cases hn : nl t with
        | true => rfl
        | false => exact absurd ⟨h1, hn⟩ hc
theorem script_ref (t : List UInt8) : script t = if 65536 < t.length then ([], 0, 3) else scrR t [] (lns t) := by
  unfold script
  by_cases ht : t = []
  · subst ht; rw [lns_nil]; simp [scrF, scrR]
  · rw [scrR_eq t ht _ _ fun h => by rw [lns_cons t ht] at h; cases h]
theorem print_plain (o : Opr) : print (plain o) = print o := by
  obtain ⟨k, p, d, f, n, l⟩ := o
  unfold print fields plain
  dsimp only
  by_cases hk : 1 ≤ k ∧ k ≤ 13
  · have hkk : k = 1 ∨ k = 2 ∨ k = 3 ∨ k = 4 ∨ k = 5 ∨ k = 6 ∨ k = 7 ∨ k = 8 ∨ k = 9 ∨ k = 10 ∨ k = 11 ∨ k = 12 ∨ k = 13 := by omega
    rcases hkk with rfl | rfl | rfl | rfl | rfl | rfl | rfl | rfl | rfl | rfl | rfl | rfl | rfl <;> simp
  · rw [if_pos ((word_nil k).2 hk), if_pos ((word_nil k).2 hk)]
theorem plain_plain (o : Opr) : plain (plain o) = plain o := by
  obtain ⟨k, p, d, f, n, l⟩ := o
  unfold plain
  simp
  exact ⟨fun h1 h2 h3 h4 => absurd (h1 h2 h3) h4, fun h1 h2 h => by omega, fun h1 h2 h => by omega, fun h1 h2 h => by omega, fun h1 h2 => absurd h2 h1⟩
theorem plain_ok {o : Opr} (h : o.ok) : (plain o).ok := by
  obtain ⟨k, p, d, f, n, l⟩ := o
  obtain ⟨h1, h2, h3⟩ := h
  refine ⟨h1, ?_, ?_⟩
  · show in64 (if k = 7 ∨ k = 9 then f else 0)
    split
    · exact h2
    · exact in64_zero
  · show in64 (if k = 8 ∨ k = 9 then n else 0)
    split
    · exact h3
    · exact in64_zero
theorem parse_print {o : Opr} {line : List UInt8} (ho : o.ok) (h : print o = (line, 0)) : parse line = some (plain o) := by
  have h' : print (plain o) = (line, 0) := (print_plain o).trans h
  obtain ⟨hs, h1, h2⟩ := spl_print h'
  obtain ⟨hb, hl, hst⟩ := back_op (plain_plain o) (plain_ok ho) h1 h2
  have hk := kindOf_word (plain o).kind h1 h2
  unfold parse
  simp only [hs, List.getD_cons_zero, hk, hb, h']
  rw [if_neg (by omega), if_pos trivial]
theorem parse_back {o : Opr} {line : List UInt8} (h : parse line = some o) : print o = (line, 0) := by
  unfold parse at h
  dsimp only at h
  split at h
  · cases h
  · split at h
    · cases h; assumption
    · cases h
theorem print_no10 (o : Opr) : (10 : UInt8) ∉ (print o).1 := by
  unfold print
  split
  · simp
  · split
    · simp
    · intro hm
      rcases join_mem 32 _ 10 hm with h | ⟨x, hx, h⟩
      · exact absurd h (by decide)
      · rcases List.mem_cons.1 hx with rfl | hx
        · exact absurd h (by
            unfold word
            split
            · rename_i hk
              obtain ⟨j, hj, hj2⟩ : ∃ j, (o.kind - 1).toNat = j ∧ j < 13 := ⟨_, rfl, by omega⟩
              rw [hj]
              have : ∀ j, j < 13 → (10 : UInt8) ∉ wds.getD j [] := by decide
              exact this j hj2
            · simp)
        · have hq : ∀ l : List UInt8, (10 : UInt8) ∉ quo l := fun l hm => absurd (quo_mem l 10 hm).1 (by decide)
          have hi : ∀ n : Int, (10 : UInt8) ∉ Lib.itoa n := fun n hm => absurd (itoa_mem n 10 hm) (by decide)
          have hh : ∀ l : List UInt8, (10 : UInt8) ∉ hexes l := fun l hm => absurd (hexes_mem l 10 hm) (by decide)
          unfold fields at hx
          split at hx
          · simp only [List.mem_cons, List.not_mem_nil, or_false] at hx; rcases hx with rfl | rfl
            · exact hq _ h
            · exact hq _ h
          split at hx
          · simp only [List.mem_cons, List.not_mem_nil, or_false] at hx; rcases hx with rfl | rfl | rfl
            · exact hq _ h
            · exact hi _ h
            · exact hh _ h
          split at hx
          · simp only [List.mem_cons, List.not_mem_nil, or_false] at hx; rcases hx with rfl | rfl
            · exact hq _ h
            · exact hi _ h
          split at hx
          · simp only [List.mem_cons, List.not_mem_nil, or_false] at hx; rcases hx with rfl | rfl | rfl
            · exact hq _ h
            · exact hi _ h
            · exact hi _ h
          split at hx
          · simp at hx
          · simp only [List.mem_cons, List.not_mem_nil, or_false] at hx; subst hx; exact hq _ h
/-- all lines, each with its newline -/
def flat (xs : List Opr) : List UInt8 := xs.flatMap fun o => (print o).1 ++ [10]
theorem textF_ok (xs : List Opr) : ∀ (k : Nat) (b s : List UInt8) (n : Int), textF k b xs = (s, n, 0) → s = b ++ flat xs ∧ n = (k : Int) + xs.length ∧ s.length ≤ 65536 ∧ ∀ o ∈ xs, (print o).2 = 0 := by
  induction xs with
  | nil =>
    intro k b s n h
    unfold textF at h
    split at h
    · simp at h
    · simp only [Prod.mk.injEq, and_true] at h
      obtain ⟨rfl, rfl⟩ := h
      exact ⟨by simp [flat], by simp, by omega, fun o ho => by simp at ho⟩
  | cons o r ih =>
    intro k b s n h
    unfold textF at h
    split at h
    · rename_i hne
      simp only [Prod.mk.injEq] at h
      exact absurd h.2.2 hne
    · rename_i he
      obtain ⟨h1, h2, h3, h4⟩ := ih _ _ _ _ h
      have hb : b.length ≤ 65536 := by
        refine Decidable.byContradiction fun hb => ?_
        unfold addT at h1
        rw [if_neg hb] at h1
        rw [h1, List.length_append] at h3
        omega
      refine ⟨?_, by rw [h2]; simp only [List.length_cons]; omega, h3, fun p hp => ?_⟩
      · rw [h1]
        unfold addT
        rw [if_pos hb]
        unfold flat
        rw [List.flatMap_cons, List.append_assoc]
      · rcases List.mem_cons.1 hp with rfl | hp
        · exact Decidable.of_not_not he
        · exact h4 p hp
theorem lns_flat (xs : List Opr) : lns (flat xs) = xs.map fun o => (print o).1 := by
  induction xs with
  | nil => rfl
  | cons o r ih =>
    have : flat (o :: r) = (print o).1 ++ 10 :: flat r := by unfold flat; rw [List.flatMap_cons]; simp
    rw [this, lns_at _ _ (print_no10 o), ih, List.map_cons]
theorem nl_flat (xs : List Opr) : flat xs ≠ [] → nl (flat xs) = true := by
  intro h
  unfold nl
  rw [List.isSuffixOf_iff_suffix]
  have hx : xs ≠ [] := fun e => h (by subst e; rfl)
  obtain ⟨ys, y, rfl⟩ : ∃ ys y, xs = ys ++ [y] := ⟨xs.dropLast, xs.getLast hx, (List.dropLast_concat_getLast hx).symm⟩
  exact ⟨flat ys ++ (print y).1, by unfold flat; simp⟩
theorem scrF_flat (t : List UInt8) (hn : t ≠ [] → nl t = true) (xs : List Opr) : ∀ acc, (∀ o ∈ xs, o.ok ∧ (print o).2 = 0) → scrF t acc (xs.map fun o => (print o).1) = (acc ++ xs.map plain, ((acc.length + xs.length : Nat) : Int), 0) := by
  induction xs with
  | nil =>
    intro acc _
    unfold scrF
    rw [List.map_nil]
    dsimp only
    rw [if_neg (fun h => by have := hn h.1; rw [this] at h; exact absurd h.2 (by decide))]
    simp
  | cons o r ih =>
    intro acc h
    obtain ⟨ho, hp⟩ := h o (by simp)
    rw [List.map_cons]
    unfold scrF
    rw [parse_print (line := (print o).1) ho (by rw [← hp])]
    dsimp only
    rw [ih _ fun p hp => h p (by simp [hp])]
    simp only [List.append_assoc, List.map_cons, List.singleton_append, List.length_append, List.length_cons, List.length_nil]
    congr 3
    omega
theorem script_text {xs : List Opr} {s : List UInt8} {n : Int} (ho : ∀ o ∈ xs, o.ok) (h : text xs = (s, n, 0)) : script s = (xs.map plain, (xs.length : Int), 0) ∧ n = xs.length := by
  obtain ⟨h1, h2, h3, h4⟩ := textF_ok xs 0 [] s n h
  rw [List.nil_append] at h1
  subst h1
  refine ⟨?_, by rw [h2]; simp⟩
  unfold script
  rw [if_neg (by omega), lns_flat, scrF_flat _ (nl_flat xs) xs [] fun o h => ⟨ho o h, h4 o h⟩]
  simp
end Tr
end Go.Proofs.YtpoongljokbgcaaDoor
/- The reference's and the program's plain call (slipwayref27.Plain, trace.Plain). -/
namespace Go.Proofs.YtpoongljokbgcaaDoor
open Go.RowKit
theorem run_append_nilsrc {P : Program} {w : World} (base : Nat) (t ty e : TypeId) (i : TypeInfo) (size : Nat) (ht : P.underlying t = some (.slice e)) (hi : P.info? e = some i)
    (v : Value) (n : Nat) (xs : List Value) (hown : w.ownsRow base e size v n xs) (c : Nat) : (Builtin.append_ #[t, t] ty #[v, .slice none 0 c]).run P w = .ok v w := by
  rcases hown.2 with ⟨rfl, rfl⟩ | ⟨g, cap, cur, rfl, _, _, hnc, _⟩
  · simp [Builtin.append_, run_underlying ht, sizeOf, typeInfo, hi, Builtin.lenOf, Builtin.firstCells]
  · simp [Builtin.append_, run_underlying ht, sizeOf, typeInfo, hi, Builtin.lenOf, Builtin.firstCells, hnc, storeCells]
/-- append of whatever reads as a list onto a slice of the call's own. -/
theorem run_append_rd {α : Type} {enc : α → Value} {P : Program} {w : World} (base : Nat) (t ty e : TypeId) (i : TypeInfo) (z : Value) (bytes : Nat) (ht : P.underlying t = some (.slice e)) (hi : P.info? e = some i) (hz : i.zero = some z)
    (hsize : i.size = 1) (hby : i.bytes = bytes) (hzs : z.cells.size = 1)
    (v : Value) (n : Nat) (xs : List Value) (hown : w.ownsRow base e 1 v n xs) (x : Value) (l : List α) (hr : Rd enc w x l) (h1 : ∀ y, (enc y).oneCell' = true)
    (h63 : n + l.length ≤ maxLen) (hbytes : (n + l.length) * bytes ≤ 140737488355328) (hbase : base ≤ w.heap.size) :
    ∃ v' w', (Builtin.append_ #[t, t] ty #[v, x]).run P w = .ok v' w' ∧ w'.ownsRow base e 1 v' (n + l.length) (xs ++ l.map enc) ∧ w.grownBy w' v.ownBlock := by
  obtain ⟨a, cap, rfl, hcap, hc⟩ := hr
  cases a with
  | none =>
    have hl : l = [] := by
      cases l with
      | nil => rfl
      | cons y l => obtain ⟨b, o, h, _⟩ := hc 0 y rfl; cases h
    subst hl
    exact ⟨v, w, run_append_nilsrc base t ty e i 1 ht hi v n xs hown cap, by simpa using hown, World.grownBy.refl w _⟩
  | some ad =>
    obtain ⟨v', w', hrun, h2, h3, _⟩ := run_append_own_at (P := P) w base t ty e i z 1 bytes ht hi hz hsize hby hzs (by decide) v n xs hown ad l.length cap (l.map enc) (by simp)
      (fun j u hu => by
        rw [List.getElem?_map] at hu
        obtain ⟨y, hy, rfl⟩ := Option.map_eq_some_iff.1 hu
        obtain ⟨b, o, e1, _, hcell⟩ := hc j y hy
        cases e1
        have he : (⟨b, o, none⟩ : Addr).add j = ⟨b, o + j, none⟩ := by unfold Addr.add; split <;> simp_all
        rw [he]; exact hcell)
      (fun u hu => by obtain ⟨y, _, rfl⟩ := List.mem_map.1 hu; exact h1 y) h63 hbytes hbase
    exact ⟨v', w', hrun, h2, h3⟩
theorem wpList_append_rd {α : Type} {enc : α → Value} {P : Program} {w : World} {ops : Array Oper} {rest : List Oper} {o : Oper} {a : Act} {Q : Exit → Act → World → Prop} (hgd : o.guard = none) (s x : Operand) (t : TypeId)
    (ho : o.op = .call { callee := .builtin .append, args := #[s, x], argTypes := #[t, t] })
    (base : Nat) (e : TypeId) (i : TypeInfo) (z : Value) (bytes : Nat) (ht : P.underlying t = some (.slice e)) (hi : P.info? e = some i) (hz : i.zero = some z)
    (hsize : i.size = 1) (hby : i.bytes = bytes) (hzs : z.cells.size = 1)
    (v : Value) (n : Nat) (xs : List Value) (hs : a.eval s = v) (hown : w.ownsRow base e 1 v n xs) (u : Value) (l : List α) (hx : a.eval x = u) (hr : Rd enc w u l) (h1 : ∀ y, (enc y).oneCell' = true)
    (h63 : n + l.length ≤ maxLen) (hbytes : (n + l.length) * bytes ≤ 140737488355328) (hbase : base ≤ w.heap.size)
    (h : ∀ v' w', w'.ownsRow base e 1 v' (n + l.length) (xs ++ l.map enc) → w.grownBy w' v.ownBlock → wpList P ops Q rest (a.put o.dst v') w') : wpList P ops Q (o :: rest) a w := by
  refine wpList_plain hgd fun K hK => ?_
  obtain ⟨v', w', hrun, h2, h3⟩ := run_append_rd (P := P) base t o.type e i z bytes ht hi hz hsize hby hzs v n xs hown u l hr h1 h63 hbytes hbase
  unfold Oper.wp execOp
  simp only [ho, resolve, invoke, builtin, Sem.run_bind, Sem.run_pure, Result.andThen_ok, List.map_toArray, List.map_cons, List.map_nil, hs, hx, hrun]
  exact hK _ _ (h v' w' h2 h3)
def opV (o : Opr) (dv : Value) : Value := .agg #[.int .i64 o.kind, .string (S o.path), .string (S o.dest), .int .i64 o.off, .int .i64 o.len, dv]
/-- A call as an answer. -/
def PlainRes (o : Opr) (w : World) (e : Ending) (w' : World) : Prop :=
  ∃ dv, e = .returned (opV o dv) ∧ RdB w' dv o.data ∧ Below w.heap.size w w'
theorem plainRes_mk {o : Opr} {k : Int} {p t : List UInt8} {f n : Int} {l : List UInt8} {dv : Value} {w : World} {e : Ending} {w' : World} (h : o = ⟨k, p, t, f, n, l⟩)
    (he : e = .returned (.agg #[.int .i64 k, .string (S p), .string (S t), .int .i64 f, .int .i64 n, dv])) (hr : RdB w' dv l) (hb : Below w.heap.size w w') : PlainRes o w e w' := by
  subst h; exact ⟨dv, he, hr, hb⟩
theorem res27 {W : World} {b : Nat} {v0 v1 v2 v3 v4 v5 : Value} (h : Box W b 44 #[v0, v1, v2, v3, v4, v5]) {tmps : Array Value} (h2 : tmps.getD 2 undef = .pointer (some ⟨b, 0, none⟩)) :
    (results Tryd.f27 tmps).run Tryd.prog W = .ok (.agg #[v0, v1, v2, v3, v4, v5]) W := by
  have d0 := h.get 0 _ rfl
  have d1 := h.get 1 _ rfl
  have d2 := h.get 2 _ rfl
  have d3 := h.get 3 _ rfl
  have d4 := h.get 4 _ rfl
  have d5 := h.get 5 _ rfl
  simp at h2
  simp [results, Tryd.results27, go_sem, h2, d0, d1, d2, d3, d4, d5]
theorem res24 {W : World} {b : Nat} {v0 v1 v2 v3 v4 v5 : Value} (h : Box W b 44 #[v0, v1, v2, v3, v4, v5]) {tmps : Array Value} (h2 : tmps.getD 2 undef = .pointer (some ⟨b, 0, none⟩)) :
    (results Tryd.f24 tmps).run Tryd.prog W = .ok (.agg #[v0, v1, v2, v3, v4, v5]) W := by
  have d0 := h.get 0 _ rfl
  have d1 := h.get 1 _ rfl
  have d2 := h.get 2 _ rfl
  have d3 := h.get 3 _ rfl
  have d4 := h.get 4 _ rfl
  have d5 := h.get 5 _ rfl
  simp at h2
  simp [results, Tryd.results24, go_sem, h2, d0, d1, d2, d3, d4, d5]
end Go.Proofs.YtpoongljokbgcaaDoor
