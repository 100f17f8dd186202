/- Entries compared; slices.Equal of entries; bytes.Equal of blocks. -/
import Derived.Test.YtmlgjmcenjbbeaaAa
import Derived.Laws.StructEq
namespace Go.Proofs.Ytmlgjmcenjbbeaa
open Go.RowKit
theorem und24 : Try.prog.underlying 24 = some (.struct (Try.prog.fieldsOf 24)) := by kernel_rfl
theorem held24 : Try.prog.stoodInHeld 24 = false := by kernel_rfl
theorem names24 : (Try.prog.fieldsOf 24).toList.map (fun f => (f.name == "_", f.type, f.offset)) = [(false, 9, 0), (false, 3, 1), (false, 3, 2)] := by kernel_rfl
theorem part9 (s : ByteArray) (i k : Int) (w : World) : (part 9 #[.string s, .int .i64 i, .int .i64 k] 0).run Try.prog w = .ok (.string s) w := by kernel_rfl
theorem part3a (s : ByteArray) (i k : Int) (w : World) : (part 3 #[.string s, .int .i64 i, .int .i64 k] 1).run Try.prog w = .ok (.int .i64 i) w := by kernel_rfl
theorem part3b (s : ByteArray) (i k : Int) (w : World) : (part 3 #[.string s, .int .i64 i, .int .i64 k] 2).run Try.prog w = .ok (.int .i64 k) w := by kernel_rfl
theorem eqFields_ent (s t : ByteArray) (i k j l : Int) (w : World) (fs : List Field) (h : fs.map (fun f => (f.name == "_", f.type, f.offset)) = [(false, 9, 0), (false, 3, 1), (false, 3, 2)]) :
    (Op.eqFields 9999 #[.string s, .int .i64 i, .int .i64 k] #[.string t, .int .i64 j, .int .i64 l] fs).run Try.prog w = .ok ((s.toList == t.toList) && (i == j) && (k == l)) w := by
  obtain ⟨f0, fs1, rfl, h0, h⟩ := List.map_eq_cons_iff.1 h
  obtain ⟨f1, fs2, rfl, h1, h⟩ := List.map_eq_cons_iff.1 h
  obtain ⟨f2, fs3, rfl, h2, h⟩ := List.map_eq_cons_iff.1 h
  obtain rfl := List.map_eq_nil_iff.1 h
  simp only [Prod.mk.injEq] at h0 h1 h2
  obtain ⟨a0, a1, a2⟩ := h0
  obtain ⟨b0, b1, b2⟩ := h1
  obtain ⟨c0, c1, c2⟩ := h2
  have n0 : f0.name ≠ "_" := by simpa using a0
  have n1 : f1.name ≠ "_" := by simpa using b0
  have n2 : f2.name ≠ "_" := by simpa using c0
  have q9 : ∀ (a b : ByteArray) (w : World), (Op.equalIn 9999 9 (.string a) (.string b)).run Try.prog w = .ok (a.toList == b.toList) w := fun a b w => run_equalIn_string (P := Try.prog) w 9998 9 a b Try.underlying9
  have q3 : ∀ (a b : Int) (w : World), (Op.equalIn 9999 3 (.int .i64 a) (.int .i64 b)).run Try.prog w = .ok (a == b) w := fun a b w => run_equalIn_int (P := Try.prog) w 9998 3 .i64 .i64 a b Try.underlying3
  rcases h1 : s.toList == t.toList with _ | _ <;> rcases h2 : i == j with _ | _ <;> rcases h3 : k == l with _ | _ <;>
    simp only [Op.eqFields, n0, n1, n2, a1, a2, b1, b2, c1, c2, ne_eq, not_false_eq_true, if_true, Sem.run_bind, Sem.run_ite, Sem.run_pure, part9, part3a, part3b, Result.andThen_ok, q9, q3, h1, h2, h3, Bool.not_true, Bool.not_false, Bool.false_eq_true, if_false, Bool.and_true, Bool.and_false, Bool.true_and, Bool.false_and]
theorem ent_eql (s t : ByteArray) (i k j l : Int) (w : World) : (binOp .eql 24 (.agg #[.string s, .int .i64 i, .int .i64 k]) (.agg #[.string t, .int .i64 j, .int .i64 l])).run Try.prog w = .ok (.bool ((s.toList == t.toList) && (i == j) && (k == l))) w := by
  rw [run_eql_struct, run_equalIn_agg w _ 24 _ _ und24 held24, eqFields_ent _ _ _ _ _ _ _ _ names24]; rfl
theorem ent_neq (s t : ByteArray) (i k j l : Int) (w : World) : (binOp .neq 24 (.agg #[.string s, .int .i64 i, .int .i64 k]) (.agg #[.string t, .int .i64 j, .int .i64 l])).run Try.prog w = .ok (.bool (!((s.toList == t.toList) && (i == j) && (k == l)))) w := by
  rw [run_neq_struct, run_equalIn_agg w _ 24 _ _ und24 held24, eqFields_ent _ _ _ _ _ _ _ _ names24]; rfl
theorem ent_neq_same (s : List UInt8) (i k : Int) (w : World) : (binOp .neq 24 (.agg #[.string (S s), .int .i64 i, .int .i64 k]) (.agg #[.string (S s), .int .i64 i, .int .i64 k])).run Try.prog w = .ok (.bool false) w := by
  rw [ent_neq]; simp
theorem ent_eql_same (s : List UInt8) (i k : Int) (w : World) : (binOp .eql 24 (.agg #[.string (S s), .int .i64 i, .int .i64 k]) (.agg #[.string (S s), .int .i64 i, .int .i64 k])).run Try.prog w = .ok (.bool true) w := by
  rw [ent_eql]; simp
theorem RdE.take {W : World} {la : Option Addr} {n lc : Nat} {xs : List Ent} (h : RdE W (.slice la n lc) xs) (m : Nat) (hm : m ≤ xs.length) : RdE W (.slice la m lc) (xs.take m) := by
  obtain ⟨a, c, h1, h2, h3⟩ := h
  cases h1
  have hl : (xs.take m).length = m := by rw [List.length_take]; omega
  refine ⟨_, _, by rw [hl], by rw [hl]; omega, fun j x hj => ?_⟩
  have hlt := (List.getElem?_eq_some_iff.1 hj).1
  rw [hl] at hlt
  rw [List.getElem?_take_of_lt hlt] at hj
  exact h3 j x hj
set_option maxRecDepth 100000 in
set_option maxHeartbeats 4000000 in
theorem equalE_true (xs : List Ent) (v u : Value) (w : World) (hv : RdE w v xs) (hu : RdE w u xs) (hm : xs.length ≤ 1000) : Calls Try.prog 22 #[v, u] w (BoolB true w) := by
  obtain ⟨la, lc, rfl⟩ := hv.len
  obtain ⟨ua, uc, rfl⟩ := hu.len
  replace hv := Lib.hid hv
  replace hu := Lib.hid hu
  have hS := ent_neq_same
  go_enter Try.func22, Try.ntmps22
  go_wp2_with fail
  go_loopw [13] (fun i wr => ∃ k m : Nat, k ≤ xs.length ∧ i = .int .i64 k ∧ wr = w.drewN m) (fun i _ => xs.length - (intOf i).toNat)
  case atStart => exact ⟨0, 0, by omega, rfl, rfl⟩
  case round =>
    obtain ⟨k, m, hk, rfl, hw⟩ := hrel
    obtain rfl := hw.symm
    by_cases hlt : k < xs.length
    · obtain ⟨b1, o1, q1, hv1, _, _, g1⟩ := hv.out.at (by intro e; rw [e] at hlt; simp at hlt)
      obtain ⟨b2, o2, q2, hv2, _, _, g2⟩ := hu.out.at (by intro e; rw [e] at hlt; simp at hlt)
      cases hv1
      cases hv2
      have c0 := g1 k hlt 0
      have c1 := g1 k hlt 1
      have c2 := g1 k hlt 2
      have d0 := g2 k hlt 0
      have d1 := g2 k hlt 1
      have d2 := g2 k hlt 2
      clear g1 g2
      obtain ⟨q, hq⟩ : ∃ q, xs[k] = q := ⟨_, rfl⟩
      rw [hq] at c0 c1 c2 d0 d1 d2
      obtain ⟨qn, qi, qk⟩ := q
      replace c0 := c0 _ rfl
      replace c1 := c1 _ rfl
      replace c2 := c2 _ rfl
      replace d0 := d0 _ rfl
      replace d1 := d1 _ rfl
      replace d2 := d2 _ rfl
      dsimp only at c0 c1 c2 d0 d1 d2
      replace c0 : w.cell? ⟨b1, o1 + k * 3, none⟩ = _ := c0
      replace d0 : w.cell? ⟨b2, o2 + k * 3, none⟩ = _ := d0
      have hsn := fun W => hS qn qi qk W
      clear hq
      have hI0 : (0 : Int) ≤ (k : Int) := by omega
      have hI1 : (k : Int) < (xs.length : Int) := by omega
      go_wp2_with fail
      go_quiet (fail)
      go_wp2_with fail
      go_roundw
      case rel => exact ⟨k + 1, _, by omega, by go_num, rfl⟩
      case measure => simp [intOf]; omega
    · have hk' : k = xs.length := by omega
      subst hk'
      go_wp2_with fail
      go_ret
      exact ⟨rfl, below_drewN _ _⟩
theorem equalB_any (xs ys : List UInt8) (v u : Value) (w : World) (hv : RdB w v xs) (hu : RdB w u ys) : Calls Try.prog 17 #[v, u] w fun e w' => e = .returned (.bool (xs == ys)) ∧ w' = w := by
  have := Try.bytes_Equal_strs v u (S xs) (S ys) w (convert_rd (P := Try.prog) Try.underlying22 Try.underlying5 Try.underlying9 hv) (convert_rd (P := Try.prog) Try.underlying22 Try.underlying5 Try.underlying9 hu)
  simpa using this
end Go.Proofs.Ytmlgjmcenjbbeaa
