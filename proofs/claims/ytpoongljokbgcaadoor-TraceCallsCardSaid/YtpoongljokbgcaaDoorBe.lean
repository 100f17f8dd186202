/- Plain law: the reference's reading of a line, word by word, gives what the program's reading gives. -/
import Derived.Test.YtpoongljokbgcaaDoorU
import Derived.Test.YtpoongljokbgcaaDoorAk
import Derived.Test.YtpoongljokbgcaaDoorBd
namespace Go.Proofs.YtpoongljokbgcaaDoor
namespace Tr
/-- a call without what its kind does not use -/
def plain (o : Opr) : Opr :=
  { kind := o.kind, path := if (1 ≤ o.kind ∧ o.kind ≤ 13) ∧ o.kind ≠ 13 then o.path else [], dest := if o.kind = 3 ∨ o.kind = 6 then o.dest else [],
    off := if o.kind = 7 ∨ o.kind = 9 then o.off else 0, len := if o.kind = 8 ∨ o.kind = 9 then o.len else 0, data := if o.kind = 7 then o.data else [] }
/-- a reading under way: the call so far, the words that are left, whether all was well -/
structure St where
  op : Opr
  ws : List (List UInt8)
  ok : Bool
def St.step (c : Bool) (f : Opr → List UInt8 → Opr × Bool) (s : St) : St :=
  if s.ok && c then (match s.ws with | [] => s | x :: r => ⟨(f s.op x).1, r, (f s.op x).2⟩) else s
def fPath (o : Opr) (x : List UInt8) : Opr × Bool := ({ o with path := (unq x).getD [] }, (unq x).isSome)
def fTo (o : Opr) (x : List UInt8) : Opr × Bool := ({ o with dest := (unq x).getD [] }, (unq x).isSome)
def fOff (o : Opr) (x : List UInt8) : Opr × Bool := ({ o with off := (pnum x).1 }, (pnum x).2)
def fLen (o : Opr) (x : List UInt8) : Opr × Bool := ({ o with len := (pnum x).1 }, (pnum x).2)
def fData (o : Opr) (x : List UInt8) : Opr × Bool := ({ o with data := (unhexesX x).getD [] }, (unhexesX x).isSome)
def sPath (s : St) : St := s.step (decide (s.op.kind ≠ 13)) fPath
def sTo (s : St) : St := s.step (decide (s.op.kind = 3 ∨ s.op.kind = 6)) fTo
def sOff (s : St) : St := s.step (decide (s.op.kind = 7 ∨ s.op.kind = 9)) fOff
def sLen (s : St) : St := s.step (decide (s.op.kind = 8 ∨ s.op.kind = 9)) fLen
def sData (s : St) : St := s.step (decide (s.op.kind = 7)) fData
def st0 (line : List UInt8) : St :=
  let ws := spl 32 line
  ⟨⟨kindOf (ws.getD 0 []), [], [], 0, 0, []⟩, ws.drop 1, decide (kindOf (ws.getD 0 []) ≠ 0)⟩
def stAll (line : List UInt8) : St := sData (sLen (sOff (sTo (sPath (st0 line)))))
def parseR (line : List UInt8) : Option Opr :=
  let s := stAll line
  if s.ok = true ∧ s.ws = [] ∧ print s.op = (line, 0) then some s.op else none
structure St.fit (s : St) : Prop where
  pl : plain s.op = s.op
  in_ : s.op.ok
  kd : s.ok = true → 1 ≤ s.op.kind ∧ s.op.kind ≤ 13
theorem step_fit {s : St} {c : Bool} {f : Opr → List UInt8 → Opr × Bool} (h : s.fit)
    (hf : ∀ x, c = true → 1 ≤ s.op.kind → s.op.kind ≤ 13 → (f s.op x).1.kind = s.op.kind ∧ plain (f s.op x).1 = (f s.op x).1 ∧ (f s.op x).1.ok) : (s.step c f).fit := by
  unfold St.step
  by_cases hc : (s.ok && c) = true
  · rw [if_pos hc]
    simp only [Bool.and_eq_true] at hc
    obtain ⟨hk1, hk2⟩ := h.kd hc.1
    split
    · exact h
    · rename_i x r _
      obtain ⟨e1, e2, e3⟩ := hf x hc.2 hk1 hk2
      exact ⟨e2, e3, fun _ => by show 1 ≤ (f s.op x).1.kind ∧ _; rw [e1]; exact ⟨hk1, hk2⟩⟩
  · rw [if_neg hc]; exact h
theorem plain_ext {o p : Opr} (hk : p.kind = o.kind) (h1 : p.path = if (1 ≤ o.kind ∧ o.kind ≤ 13) ∧ o.kind ≠ 13 then p.path else []) (h2 : p.dest = if o.kind = 3 ∨ o.kind = 6 then p.dest else [])
    (h3 : p.off = if o.kind = 7 ∨ o.kind = 9 then p.off else 0) (h4 : p.len = if o.kind = 8 ∨ o.kind = 9 then p.len else 0) (h5 : p.data = if o.kind = 7 then p.data else []) : plain p = p := by
  obtain ⟨k, a, b, c, d, e⟩ := p
  simp only at hk h1 h2 h3 h4 h5
  unfold plain
  simp only [hk, Opr.mk.injEq, true_and]
  exact ⟨h1.symm, h2.symm, h3.symm, h4.symm, h5.symm⟩
theorem plain_inv {o : Opr} (h : plain o = o) : o.path = (if (1 ≤ o.kind ∧ o.kind ≤ 13) ∧ o.kind ≠ 13 then o.path else []) ∧ o.dest = (if o.kind = 3 ∨ o.kind = 6 then o.dest else []) ∧
    o.off = (if o.kind = 7 ∨ o.kind = 9 then o.off else 0) ∧ o.len = (if o.kind = 8 ∨ o.kind = 9 then o.len else 0) ∧ o.data = (if o.kind = 7 then o.data else []) := by
  obtain ⟨k, a, b, c, d, e⟩ := o
  unfold plain at h
  simp only [Opr.mk.injEq, true_and] at h
  exact ⟨h.1.symm, h.2.1.symm, h.2.2.1.symm, h.2.2.2.1.symm, h.2.2.2.2.symm⟩
theorem kindN_le (x : List UInt8) (n : Nat) : 0 ≤ kindN x n ∧ kindN x n ≤ n := kindN_range x n
theorem st0_fit (line : List UInt8) : (st0 line).fit := by
  have hk := kindN_range ((spl 32 line).getD 0 []) 13
  refine ⟨?_, ⟨⟨?_, ?_⟩, in64_zero, in64_zero⟩, fun h => ?_⟩
  · exact plain_ext rfl (by simp [st0]) (by simp [st0]) (by simp [st0]) (by simp [st0]) (by simp [st0])
  · show -9223372036854775808 ≤ kindN _ 13; omega
  · show kindN _ 13 ≤ 9223372036854775807; omega
  · simp only [st0, ne_eq, decide_not, Bool.not_eq_true', decide_eq_false_iff_not] at h
    show 1 ≤ kindN _ 13 ∧ kindN _ 13 ≤ 13
    change ¬ kindN _ 13 = 0 at h
    omega
theorem all_fit (line : List UInt8) : (stAll line).fit := by
  unfold stAll
  have h0 := st0_fit line
  have h1 : (sPath (st0 line)).fit := step_fit h0 fun x hc k1 k2 => by
    obtain ⟨a, b, c, d, e⟩ := plain_inv h0.pl
    have hc : (st0 line).op.kind ≠ 13 := of_decide_eq_true hc
    exact ⟨rfl, plain_ext rfl (if_pos ⟨⟨k1, k2⟩, hc⟩).symm b c d e, h0.in_⟩
  have h2 : (sTo (sPath (st0 line))).fit := step_fit h1 fun x hc k1 k2 => by
    obtain ⟨a, b, c, d, e⟩ := plain_inv h1.pl
    have hc := of_decide_eq_true hc
    exact ⟨rfl, plain_ext rfl a (if_pos hc).symm c d e, h1.in_⟩
  have h3 : (sOff (sTo (sPath (st0 line)))).fit := step_fit h2 fun x hc k1 k2 => by
    obtain ⟨a, b, c, d, e⟩ := plain_inv h2.pl
    have hc := of_decide_eq_true hc
    exact ⟨rfl, plain_ext rfl a b (if_pos hc).symm d e, ⟨h2.in_.1, pnum_in x, h2.in_.2.2⟩⟩
  have h4 : (sLen (sOff (sTo (sPath (st0 line))))).fit := step_fit h3 fun x hc k1 k2 => by
    obtain ⟨a, b, c, d, e⟩ := plain_inv h3.pl
    have hc := of_decide_eq_true hc
    exact ⟨rfl, plain_ext rfl a b c (if_pos hc).symm e, ⟨h3.in_.1, h3.in_.2.1, pnum_in x⟩⟩
  exact step_fit h4 fun x hc k1 k2 => by
    obtain ⟨a, b, c, d, e⟩ := plain_inv h4.pl
    have hc := of_decide_eq_true hc
    exact ⟨rfl, plain_ext rfl a b c d (if_pos hc).symm, h4.in_⟩
theorem word32 (k : Int) : (32 : UInt8) ∉ word k := by
  by_cases h : 1 ≤ k ∧ k ≤ 13
  · unfold word
    rw [if_pos h]
    obtain ⟨j, hj, hj2⟩ : ∃ j, (k - 1).toNat = j ∧ j < 13 := ⟨_, rfl, by omega⟩
    rw [hj]
    have : ∀ j, j < 13 → (32 : UInt8) ∉ wds.getD j [] := by decide
    exact this j hj2
  · unfold word; rw [if_neg h]; simp
theorem quo32 (l : List UInt8) : (32 : UInt8) ∉ quo l := no32 _ fun d h => (quo_mem l d h).1
theorem hexes32 (l : List UInt8) : (32 : UInt8) ∉ hexes l := no32 _ fun d h => by have := hexes_mem l d h; omega
theorem fields32 (o : Opr) : ∀ y ∈ fields o, (32 : UInt8) ∉ y := by
  have a := quo32 o.path
  have b := quo32 o.dest
  have c := itoa32 o.off
  have d := itoa32 o.len
  have e := hexes32 o.data
  intro y hy
  unfold fields at hy
  split at hy
  · simp only [List.mem_cons, List.not_mem_nil, or_false] at hy; rcases hy with rfl | rfl <;> assumption
  split at hy
  · simp only [List.mem_cons, List.not_mem_nil, or_false] at hy; rcases hy with rfl | rfl | rfl <;> assumption
  split at hy
  · simp only [List.mem_cons, List.not_mem_nil, or_false] at hy; rcases hy with rfl | rfl <;> assumption
  split at hy
  · simp only [List.mem_cons, List.not_mem_nil, or_false] at hy; rcases hy with rfl | rfl | rfl <;> assumption
  split at hy
  · simp at hy
  · simp only [List.mem_cons, List.not_mem_nil, or_false] at hy; subst hy; assumption
theorem spl_print {o : Opr} {line : List UInt8} (h : print o = (line, 0)) : spl 32 line = word o.kind :: fields o ∧ 1 ≤ o.kind ∧ o.kind ≤ 13 := by
  unfold print at h
  split at h
  · simp at h
  · rename_i hw
    rw [word_nil] at hw
    split at h
    · simp at h
    · simp only [Prod.mk.injEq, and_true] at h
      subst h
      exact ⟨spl_join 32 _ _ (word32 _) (fields32 o), by omega⟩
theorem kindOf_word (k : Int) (h1 : 1 ≤ k) (h2 : k ≤ 13) : kindOf (word k) = k := by
  obtain ⟨n, rfl⟩ := Int.eq_ofNat_of_zero_le (by omega : 0 ≤ k)
  exact kindN_at _ n (by omega) rfl 13 (by omega) (Nat.le_refl _)
theorem unq_quo' (l : List UInt8) : (unq (quo l)).getD [] = l := by rw [unq_quo]; rfl
theorem back_op {o : Opr} (hp : plain o = o) (ho : o.ok) (h1 : 1 ≤ o.kind) (h2 : o.kind ≤ 13) : build (word o.kind :: fields o) = o ∧ (word o.kind :: fields o).length = 1 + nf o.kind ∧
    sData (sLen (sOff (sTo (sPath ⟨⟨o.kind, [], [], 0, 0, []⟩, fields o, true⟩)))) = ⟨o, [], true⟩ := by
  have hk := kindOf_word o.kind h1 h2
  have hq := unq_quo o.path
  have hq2 := unq_quo o.dest
  have hh := unhexes_hexes o.data
  have hn1 := pnum_itoa o.off ho.2.1
  have hn2 := pnum_itoa o.len ho.2.2
  obtain ⟨a, b, c, d, e⟩ := plain_inv hp
  clear hp ho
  obtain ⟨k, p, t, f, n, l⟩ := o
  simp only at *
  have hkk : k = 1 ∨ k = 2 ∨ k = 3 ∨ k = 4 ∨ k = 5 ∨ k = 6 ∨ k = 7 ∨ k = 8 ∨ k = 9 ∨ k = 10 ∨ k = 11 ∨ k = 12 ∨ k = 13 := by omega
  clear h1 h2
  rcases hkk with rfl | rfl | rfl | rfl | rfl | rfl | rfl | rfl | rfl | rfl | rfl | rfl | rfl
  all_goals
    simp at a b c d e
    subst_vars
    simp [build, fields, nf, txt, sPath, sTo, sOff, sLen, sData, St.step, fPath, fTo, fOff, fLen, fData, *]
theorem parse_eq (line : List UInt8) : parseR line = parse line := by
  by_cases hx : ∃ o, plain o = o ∧ o.ok ∧ print o = (line, 0)
  · obtain ⟨o, hp, ho, h⟩ := hx
    obtain ⟨hs, h1, h2⟩ := spl_print h
    obtain ⟨hb, hl, hst⟩ := back_op hp ho h1 h2
    have hk := kindOf_word o.kind h1 h2
    have e1 : parse line = some o := by
      unfold parse
      simp only [hs, List.getD_cons_zero, hk, hb, h]
      rw [if_neg (by omega), if_pos trivial]
    have e2 : stAll line = ⟨o, [], true⟩ := by
      unfold stAll st0
      simp only [hs, List.getD_cons_zero, hk, List.drop_succ_cons, List.drop_zero]
      rw [show decide (o.kind ≠ 0) = true from decide_eq_true (by omega)]
      exact hst
    rw [e1]
    unfold parseR
    simp only [e2, h, and_self, if_true]
  · have e1 : parseR line = none := by
      unfold parseR
      simp only
      rw [if_neg]
      rintro ⟨-, -, h⟩
      exact hx ⟨_, (all_fit line).pl, (all_fit line).in_, h⟩
    have e2 : parse line = none := by
      unfold parse
      simp only
      split
      · rfl
      · rename_i hc
        rw [if_neg]
        intro h
        refine hx ⟨_, ?_, ?_, h⟩
        · have hr := kindN_range ((spl 32 line).getD 0 []) 13
          have hk : (build (spl 32 line)).kind = kindN ((spl 32 line).getD 0 []) 13 := rfl
          obtain ⟨k, hk'⟩ : ∃ k, kindN ((spl 32 line).getD 0 []) 13 = k := ⟨_, rfl⟩
          have hne : k ≠ 0 := fun e => hc (.inl (by show kindN _ 13 = 0; omega))
          refine plain_ext rfl ?_ ?_ ?_ ?_ ?_
          all_goals
            rw [hk, hk']
            simp only [build, kindOf, hk']
            rw [hk'] at hr
          · by_cases h13 : k = 13
            · simp [h13]
            · rw [if_pos (by omega : (1 ≤ k ∧ k ≤ 13) ∧ k ≠ 13)]
          · split <;> rfl
          · split <;> rfl
          · by_cases h8 : k = 8
            · simp [h8]
            · by_cases h9 : k = 9
              · simp [h9]
              · simp [h8, h9]
          · split <;> rfl
        · refine ⟨?_, ?_, ?_⟩
          · have hr := kindN_range ((spl 32 line).getD 0 []) 13
            show in64 (kindN _ 13)
            exact ⟨by omega, by omega⟩
          · show in64 (if _ then _ else _)
            split
            · exact pnum_in _
            · exact in64_zero
          · show in64 (if _ then _ else _)
            split
            · exact pnum_in _
            · split
              · exact pnum_in _
              · exact in64_zero
    rw [e1, e2]
end Tr
end Go.Proofs.YtpoongljokbgcaaDoor
