/- A number, the highest byte first. -/
import Derived.Test.YtmlgjmcenjbbeaaE
namespace Go.Proofs.Ytmlgjmcenjbbeaa
open Go.RowKit
namespace Nm
def num (l : List UInt8) : Nat := l.foldl (fun n c => n * 256 + c.toNat) 0
theorem num_take (l : List UInt8) (k : Nat) (h : k < l.length) : num (l.take (k + 1)) = num (l.take k) * 256 + l[k].toNat := by
  unfold num
  rw [List.take_succ_eq_append_getElem h, List.foldl_append]; rfl
theorem num_lt (l : List UInt8) : num l < 256 ^ l.length := by
  have : ∀ (l : List UInt8) (a : Nat), l.foldl (fun n c => n * 256 + c.toNat) a < (a + 1) * 256 ^ l.length := by
    intro l
    induction l with
    | nil => intro a; simp
    | cons c l ih =>
      intro a
      have h := ih (a * 256 + c.toNat)
      have hc : c.toNat < 256 := c.toNat_lt
      rw [List.foldl_cons, List.length_cons, Nat.pow_succ]
      refine Nat.lt_of_lt_of_le h ?_
      calc (a * 256 + c.toNat + 1) * 256 ^ l.length ≤ ((a + 1) * 256) * 256 ^ l.length := Nat.mul_le_mul_right _ (by omega)
        _ = (a + 1) * (256 ^ l.length * 256) := by rw [Nat.mul_assoc, Nat.mul_comm 256]
  have h := this l 0
  simpa [num] using h
end Nm
theorem or256 (n c : Nat) (hn : n < 16777216) (hc : c < 256) : bits .or .i64 ((n : Int) * 256) (c : Int) = ((n * 256 + c : Nat) : Int) := by
  have e : ((n : Int) * 256) = ((n * 256 : Nat) : Int) := by omega
  rw [e]
  show IntKind.i64.wrap ((BitVec.ofInt 64 ((n * 256 : Nat) : Int) ||| BitVec.ofInt 64 (c : Int)).toNat : Int) = _
  have h1 : (BitVec.ofInt 64 ((n * 256 : Nat) : Int)).toNat = n * 256 := by rw [BitVec.toNat_ofInt]; omega
  have h2 : (BitVec.ofInt 64 (c : Int)).toNat = c := by rw [BitVec.toNat_ofInt]; omega
  have h3 : n * 256 ||| c = n * 256 + c := by
    have := Nat.shiftLeft_add_eq_or_of_lt (i := 8) (b := c) (by omega) n
    rw [Nat.shiftLeft_eq] at this
    exact this.symm
  rw [BitVec.toNat_or, h1, h2, h3, IntKind.wrap_i64]
  omega
set_option maxHeartbeats 2000000 in
theorem num_any (l : List UInt8) (v : Value) (w : World) (hr : RdB w v l) (hl : l.length ≤ 4) : Calls Try.prog 59 #[v] w (Num (Nm.num l) w) := by
  obtain ⟨a, cap, hv, hc, h3⟩ := hr
  subst hv
  replace h3 := Lib.hid h3
  go_enter Try.func59, Try.ntmps59
  go_wp2
  go_loopw [3, 8] (fun s i wr => wr = w ∧ ∃ k : Nat, k ≤ l.length ∧ i = .int .i64 k ∧ s = .int .i64 (Nm.num (l.take k))) (fun _ i _ => l.length - (intOf i).toNat)
  case atStart => exact ⟨rfl, 0, Nat.zero_le _, rfl, rfl⟩
  case round =>
    obtain ⟨hw, k, hk, rfl, rfl⟩ := hrel
    obtain rfl := hw.symm
    by_cases hlt : k < l.length
    · obtain ⟨b, o, he, hbk, hcell⟩ := h3.out k _ (List.getElem?_eq_getElem hlt)
      subst he
      have hnt := Nm.num_take l k hlt
      have hlt2 := Nm.num_lt (l.take k)
      obtain ⟨c, hx⟩ : ∃ c, l[k] = c := ⟨_, rfl⟩
      rw [hx] at hcell hnt
      unfold byteV at hcell
      replace hx := Lib.hid hx
      obtain ⟨n, hn⟩ : ∃ n, Nm.num (l.take k) = n := ⟨_, rfl⟩
      rw [hn] at hnt hlt2 ⊢
      replace hn := Lib.hid hn
      have hc256 : c.toNat < 256 := c.toNat_lt
      have hnb : n < 16777216 := by
        refine Nat.lt_of_lt_of_le hlt2 ?_
        rw [List.length_take]
        exact Nat.le_trans (Nat.pow_le_pow_right (by decide) (by omega : min k l.length ≤ 3)) (by decide)
      clear hlt2
      replace hnt := Lib.hid hnt
      go_wp2
      go_roundw
      case rel => exact ⟨trivial, k + 1, by omega, by go_num, by rw [or256 n _ hnb hc256, hnt.out]⟩
      case measure => simp [intOf]; omega
    · have hk' : k = l.length := by omega
      subst hk'
      rw [List.take_length]
      go_wp2
      go_ret
      exact ⟨rfl, rfl⟩
end Go.Proofs.Ytmlgjmcenjbbeaa
