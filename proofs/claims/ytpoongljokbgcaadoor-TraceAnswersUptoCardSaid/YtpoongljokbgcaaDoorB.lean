import Derived.Test.YtpoongljokbgcaaDoorC
import Derived.Test.YtpoongljokbgcaaDoorA
import Derived.Test.YtpoongljokbgcaaDoorS
import Derived.Deep.QuietTactic
import Derived.BigQuiet
import Derived.Outline
namespace Go.Proofs.YtpoongljokbgcaaDoor
open Go.RowKit
theorem u8_succ (n : Int) (h0 : 0 ≤ n) (h : n < 255) : IntKind.u8.wrap (n + 1) = n + 1 := by rw [IntKind.wrap_u8']; omega
theorem u8_and15 (n : Nat) (h : n < 256) : bits .and .u8 (n : Int) 15 = ((n % 16 : Nat) : Int) := by
  have := u8_and_nat n 15 h (by decide)
  rw [show (n &&& 15) = n % 16 from Nat.and_two_pow_sub_one_eq_mod n 4] at this
  exact this
theorem dig_cut (n : Nat) (h : n < 16) : (⟨#[48, 49, 50, 51, 52, 53, 54, 55, 56, 57, 97, 98, 99, 100, 101, 102]⟩ : ByteArray).extract n (n + 1) = ⟨#[Tr.dg n]⟩ := by
  have : ∀ m : Fin 16, (⟨#[48, 49, 50, 51, 52, 53, 54, 55, 56, 57, 97, 98, 99, 100, 101, 102]⟩ : ByteArray).extract m.val (m.val + 1) = ⟨#[Tr.dg m.val]⟩ := by decide +kernel
  exact this ⟨n, h⟩
theorem u8_in (n : Int) (h : 0 ≤ n ∧ n ≤ 255) : IntKind.u8.wrap n = n := IntWalk.u8_in n h
theorem app2 (a b : UInt8) : (⟨#[a]⟩ : ByteArray) ++ ⟨#[b]⟩ = ⟨#[a, b]⟩ := rfl
set_option maxHeartbeats 400000 in
theorem hex_any (c : UInt8) (w : World) :
    Calls Tryd.prog 40 #[.int .u8 c.toNat] w fun e w' => e = .returned (.string (S (Tr.hexB c))) ∧ ∃ n, w' = w.drewN n := by
  have hc : c.toNat < 256 := c.toNat_lt
  have hn : ∃ n, n = c.toNat := ⟨_, rfl⟩
  obtain ⟨n, hn⟩ := hn
  have H : Hid (Ending.returned (.string (S (Tr.hexB c))) = Ending.returned (.string ((⟨#[Tr.dg (n / 16)]⟩ : ByteArray) ++ ⟨#[Tr.dg (n % 16)]⟩))) := by rw [hn]; rfl
  rw [← hn] at hc ⊢
  clear hn
  have e1 := u8_succ ((n : Int) / 16) (by omega) (by omega)
  have e2 := u8_and15 n hc
  have e3 := u8_succ ((n % 16 : Nat) : Int) (by omega) (by omega)
  have d1 := Lib.hid (dig_cut (n / 16) (by omega))
  have d2 := Lib.hid (dig_cut (n % 16) (by omega))
  go_enter Tryd.func40, Tryd.ntmps40
  go_wp2
  go_quiet (fail)
  go_wp2
  go_ret
  exact ⟨by rw [H.out]; show Ending.returned (Value.string (_ ++ _)) = _; rw [d1.out, d2.out], _, rfl⟩

theorem indexByte_S (l : List UInt8) (c : UInt8) (w : World) :
    Calls Tryd.prog 16 #[.string ⟨l.toArray⟩, .int .u8 c.toNat] w fun e w' => e = .returned (.int .i64 (Lib.indexByte l c)) ∧ w' = w := by
  have := Tryd.strings_IndexByte (S l) c.toNat w
  rw [S_data, show ((c.toNat : Int).toNat.toUInt8) = c from by simp] at this
  exact this
theorem indexByte_eq (l : List UInt8) (c : UInt8) (x : Int) (w : World) (h : Lib.indexByte l c = x) :
    Calls Tryd.prog 16 #[.string ⟨l.toArray⟩, .int .u8 c.toNat] w fun e w' => e = .returned (.int .i64 x) ∧ w' = w := by
  rw [← h]; exact indexByte_S l c w
theorem indexByte_dgs (c : UInt8) (x : Int) (w : World) (h : Lib.indexByte Tr.dgs c = x) :
    Calls Tryd.prog 16 #[.string ⟨#[48, 49, 50, 51, 52, 53, 54, 55, 56, 57, 97, 98, 99, 100, 101, 102]⟩, .int .u8 c.toNat] w fun e w' => e = .returned (.int .i64 x) ∧ w' = w := indexByte_eq Tr.dgs c x w h
theorem indexByte_idx (l : List UInt8) (c : UInt8) : Lib.indexByte l c = if l.idxOf c < l.length then (l.idxOf c : Int) else -1 := by
  induction l with
  | nil => rfl
  | cons b l ih =>
    unfold Lib.indexByte
    rw [ih, List.idxOf_cons, List.length_cons]
    by_cases h : (b == c) = true
    · simp [h]
    · have h' : (b == c) = false := by simpa using h
      simp only [h', Bool.false_eq_true, if_false, cond_false]
      by_cases h2 : l.idxOf c < l.length
      · have h3 : l.idxOf c + 1 < l.length + 1 := by omega
        rw [if_pos h2, if_pos h3]
        have : ((l.idxOf c : Int) == -1) = false := by rw [beq_eq_false_iff_ne]; omega
        rw [this]; simp
      · have h3 : ¬ l.idxOf c + 1 < l.length + 1 := by omega
        rw [if_neg h2, if_neg h3]; rfl
theorem index_lt (c : UInt8) (h : Tr.nib c < 16) : Lib.indexByte Tr.dgs c = (Tr.nib c : Int) := by
  rw [indexByte_idx, if_pos (by exact h)]; rfl
theorem index_ge (c : UInt8) (h : ¬ Tr.nib c < 16) : Lib.indexByte Tr.dgs c = -1 := by
  rw [indexByte_idx, if_neg (by exact h)]
set_option maxHeartbeats 400000 in
theorem unhex_some (a b : UInt8) (r : List UInt8) (w : World) (hr : r.length ≤ 140737488355328) (d : UInt8) (hd : Tr.unh a b = some d) :
    Calls Tryd.prog 37 #[.string (S (a :: b :: r))] w fun e w' => e = .returned (.tuple #[.int .u8 d.toNat, .bool true]) ∧ ∃ n, w' = w.drewN n := by
  unfold Tr.unh at hd
  have hx : Tr.nib a < 16 ∧ Tr.nib b < 16 := by
    by_cases hx : Tr.nib a < 16 ∧ Tr.nib b < 16
    · exact hx
    · rw [if_neg hx] at hd; cases hd
  rw [if_pos hx] at hd
  obtain ⟨ha, hb⟩ := hx
  have h1 := Lib.hid (index_lt a ha)
  have h2 := Lib.hid (index_lt b hb)
  obtain ⟨x, hx⟩ : ∃ x, Tr.nib a = x := ⟨_, rfl⟩
  obtain ⟨y, hy⟩ : ∃ y, Tr.nib b = y := ⟨_, rfl⟩
  have H := Lib.hid (show d.toNat = 16 * x + y by rw [← Option.some.inj hd, hx, hy]; simp; omega)
  rw [hx] at h1 ha; rw [hy] at h2 hb
  clear hd hx hy
  have e1 := u8_in (16 * (x : Int) + y) (by omega)
  go_enter Tryd.func37, Tryd.ntmps37
  go_wp2
  go_quiet ((go_at_call 16; (first | with_reducible exact Calls.quiet_of_same (indexByte_dgs a _ _ h1.out) | with_reducible exact Calls.quiet_of_same (indexByte_dgs b _ _ h2.out))))
  go_wp2
  go_ret2
  exact ⟨by rw [H.out]; simp, _, rfl⟩
def Bad (w : World) (e : Ending) (w' : World) : Prop := (∃ v, e = .returned (.tuple #[.int .u8 v, .bool false])) ∧ ∃ n, w' = w.drewN n
set_option maxHeartbeats 400000 in
theorem unhex_short (r : List UInt8) (w : World) (hr : r.length < 2) : Calls Tryd.prog 37 #[.string (S r)] w (Bad w) := by
  go_enter Tryd.func37, Tryd.ntmps37
  go_wp2
  go_ret2
  exact ⟨⟨_, rfl⟩, 0, rfl⟩
set_option maxHeartbeats 400000 in
theorem unhex_none (a b : UInt8) (r : List UInt8) (w : World) (hr : r.length ≤ 140737488355328) (hd : Tr.unh a b = none) :
    Calls Tryd.prog 37 #[.string (S (a :: b :: r))] w (Bad w) := by
  have hx : ¬ (Tr.nib a < 16 ∧ Tr.nib b < 16) := by
    intro h; unfold Tr.unh at hd; rw [if_pos h] at hd; cases hd
  clear hd
  obtain ⟨x, h1, hx1, hx2⟩ : ∃ x, Lib.indexByte Tr.dgs a = x ∧ -1 ≤ x ∧ x < 16 := ⟨_, rfl, by rw [indexByte_idx]; split <;> omega, by rw [indexByte_idx]; split <;> simp_all [Tr.dgs]; omega⟩
  obtain ⟨y, h2, hy1, hy2⟩ : ∃ x, Lib.indexByte Tr.dgs b = x ∧ -1 ≤ x ∧ x < 16 := ⟨_, rfl, by rw [indexByte_idx]; split <;> omega, by rw [indexByte_idx]; split <;> simp_all [Tr.dgs]; omega⟩
  have hxy : x < 0 ∨ y < 0 := by
    by_cases ha : Tr.nib a < 16
    · exact .inr (by rw [← h2, index_ge b (fun hb => hx ⟨ha, hb⟩)]; omega)
    · exact .inl (by rw [← h1, index_ge a ha]; omega)
  clear hx
  have h1 := Lib.hid h1
  have h2 := Lib.hid h2
  go_enter Tryd.func37, Tryd.ntmps37
  go_wp2
  go_quiet ((go_at_call 16; (first | with_reducible exact Calls.quiet_of_same (indexByte_dgs a _ _ h1.out) | with_reducible exact Calls.quiet_of_same (indexByte_dgs b _ _ h2.out))))
  by_cases hx0 : 0 ≤ x
  · have hy0 : ¬ 0 ≤ y := by omega
    go_wp2
    go_ret2
    exact ⟨⟨_, rfl⟩, _, rfl⟩
  · go_wp2
    go_ret2
    exact ⟨⟨_, rfl⟩, _, rfl⟩
end Go.Proofs.YtpoongljokbgcaaDoor
