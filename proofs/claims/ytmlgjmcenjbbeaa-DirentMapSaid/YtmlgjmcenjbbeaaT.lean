/- Empty. -/
import Derived.Test.YtmlgjmcenjbbeaaR
import Derived.Laws.OwnMore
namespace Go.Proofs.Ytmlgjmcenjbbeaa
open Go.RowKit
namespace Nm
def zerosN (n : Nat) : List UInt8 := List.replicate n 0
def zeros : List UInt8 := zerosN 256
theorem zerosN_len (n : Nat) : (zerosN n).length = n := List.length_replicate
theorem zeros_len : zeros.length = 256 := zerosN_len 256
def emptyRec : Rec := ⟨0, 256, ⟨[], 0, 0⟩⟩
/-- A record that can be put. -/
def Fits (r : Rec) : Prop := 0 ≤ r.at_ ∧ r.at_ + 8 + r.e.name.length ≤ 256 ∧ 0 ≤ r.len ∧ r.len < 65536 ∧ 0 ≤ r.e.ino ∧ r.e.ino < 4294967296 ∧ 0 ≤ r.e.kind ∧ r.e.kind < 256
theorem Fits.nat {r : Rec} (h : Fits r) : ∃ a len n kd : Nat, r = ⟨a, len, ⟨r.e.name, n, kd⟩⟩ ∧ a + 8 + r.e.name.length ≤ 256 ∧ n < 4294967296 ∧ len < 65536 ∧ kd < 256 := by
  obtain ⟨ra, rl, ⟨nm, ino, kd⟩⟩ := r
  obtain ⟨h1, h2, h3, h4, h5, h6, h7, h8⟩ := h
  dsimp only at h1 h2 h3 h4 h5 h6 h7 h8
  refine ⟨ra.toNat, rl.toNat, ino.toNat, kd.toNat, ?_, ?_, ?_, ?_, ?_⟩
  · dsimp only; rw [Int.toNat_of_nonneg h1, Int.toNat_of_nonneg h3, Int.toNat_of_nonneg h5, Int.toNat_of_nonneg h7]
  all_goals ((try dsimp only); omega)
theorem put_length {bs : List UInt8} {r : Rec} (hb : bs.length = 256) (h : Fits r) : (put bs r).length = 256 := by
  obtain ⟨a, len, n, kd, hr, h1, _⟩ := h.nat
  rw [hr, put_len bs a len n kd r.e.name (by omega), hb]
def empty : List UInt8 := put zeros emptyRec
theorem empty_len : empty.length = 256 := by
  exact put_length zeros_len ⟨by decide, by decide, by decide, by decide, by decide, by decide, by decide, by decide⟩
end Nm
theorem zeros_made (w : World) (n : Nat) (hn : n ≤ 1000000) (h0 : 0 < n) : ∃ W1, (Instr.makeSlice 22 (.int .i64 (n : Int)) (.int .i64 (n : Int))).run Try.prog w = .ok (.slice (some ⟨w.heap.size, 0, none⟩) n n) W1 ∧ OwnB W1 w.heap.size n (Nm.zerosN n) ∧ Below w.heap.size w W1 := by
  obtain ⟨i0, hi0, hz0, hz1, hz2⟩ := info_parts infoByte
  obtain ⟨W1, hrun, hown, hg⟩ := run_makeSlice_full (P := Try.prog) w.heap.size (w := w) 22 5 i0 (.int .u8 0) 1 Try.underlying22 hi0 hz0 hz1 .i64 .i64 n (by omega) (by rw [hz2]; omega) (by unfold maxLen; omega) (Nat.le_refl _)
  refine ⟨W1, hrun, ?_, (Below.refl _ _).grown hg (Nat.le_refl _) (fun k hk => by cases hk)⟩
  have he : (madeCells (Value.int .u8 0).cells (n * 1)).toList = (Nm.zerosN n).map byteV := by
    rw [Nat.mul_one]
    refine (toList_madeCells_one (.int .u8 0) n).trans ?_
    unfold Nm.zerosN
    rw [List.map_replicate]; rfl
  rw [he] at hown
  have hl := Nm.zerosN_len n
  have hown' : W1.ownsRow w.heap.size 5 1 (.slice (some ⟨w.heap.size, 0, none⟩) n n) (Nm.zerosN n).length ((Nm.zerosN n).map byteV) := by rw [hl]; exact hown
  obtain ⟨g, cap, hv, _, ho⟩ := OwnB.of_own hown' (by intro e; rw [e] at hl; simp at hl; omega)
  rw [hl] at hv
  cases hv
  exact ho
theorem head_rec (bs : List UInt8) (g cap : Nat) (r : Rec) (w : World) (hown : OwnB w g cap bs) (h256 : bs.length = 256) (h : Nm.Fits r) :
    Calls Try.prog 40 #[.slice (some ⟨g, 0, none⟩) 256 cap, recV r] w (PutRes g cap (Nm.put bs r) w) := by
  obtain ⟨a, len, n, kd, hr, h1, h2, h3, h4⟩ := h.nat
  rw [hr]
  exact head_any bs g cap a n len kd r.e.name w hown h256 h1 h2 h3 h4
theorem put_rec (bs : List UInt8) (v : Value) (r : Rec) (w : World) (hrd : RdB w v bs) (h256 : bs.length = 256) (h : Nm.Fits r) :
    Calls Try.prog 41 #[v, recV r] w (BlkRes (Nm.put bs r) w) := by
  obtain ⟨a, len, n, kd, hr, h1, h2, h3, h4⟩ := h.nat
  rw [hr]
  exact put_any bs v a n len kd r.e.name w hrd h256 h1 h2 h3 h4
theorem emptyRec_fits : Nm.Fits Nm.emptyRec := ⟨by decide, by decide, by decide, by decide, by decide, by decide, by decide, by decide⟩
theorem empty_recV : recV Nm.emptyRec = .agg #[.int .i64 0, .int .i64 256, .string ⟨#[]⟩, .int .i64 0, .int .i64 0] := rfl
set_option maxRecDepth 100000 in
set_option maxHeartbeats 4000000 in
theorem empty_any (w : World) : Calls Try.prog 18 #[] w (BlkRes Nm.empty w) := by
  obtain ⟨W1, hmk, hz, hB⟩ := zeros_made w 256 (by decide) (by decide)
  have hh := head_rec Nm.zeros w.heap.size 256 Nm.emptyRec W1 hz Nm.zeros_len emptyRec_fits
  rw [empty_recV, show Nm.put Nm.zeros Nm.emptyRec = Nm.empty from rfl] at hh
  replace hmk : (Instr.makeSlice 22 (.int .i64 256) (.int .i64 256)).run Try.prog w = .ok (.slice (some ⟨w.heap.size, 0, none⟩) 256 256) W1 := hmk
  replace hh := Lib.hid hh
  replace hB := Lib.hid hB
  clear hz
  go_enter Try.func18, Try.ntmps18
  go_wp2_with (go_at_call 40; refine hh.out.mono ?_; rintro e w2 ⟨rfl, ho, hg⟩)
  go_ret
  exact ⟨w.heap.size, 256, by rw [Nm.empty_len]; rfl, Nat.le_refl _, ho, hB.out.grown hg hB.out.size (fun k hk => by cases hk; exact Nat.le_refl _)⟩
set_option maxRecDepth 100000 in
set_option maxHeartbeats 4000000 in
theorem emptyr_any (w : World) : Calls Try.prog 19 #[] w (BlkRes Nm.empty w) := by
  obtain ⟨W1, hmk, hz, hB⟩ := zeros_made w 256 (by decide) (by decide)
  have hrd := hz.rd
  rw [show Nm.zerosN 256 = Nm.zeros from rfl, Nm.zeros_len] at hrd
  have hh := put_rec Nm.zeros _ Nm.emptyRec W1 hrd Nm.zeros_len emptyRec_fits
  rw [empty_recV, show Nm.put Nm.zeros Nm.emptyRec = Nm.empty from rfl] at hh
  replace hmk : (Instr.makeSlice 22 (.int .i64 256) (.int .i64 256)).run Try.prog w = .ok (.slice (some ⟨w.heap.size, 0, none⟩) 256 256) W1 := hmk
  replace hh := Lib.hid hh
  replace hB := Lib.hid hB
  clear hz hrd
  go_enter Try.func19, Try.ntmps19
  go_wp2_with (go_at_call 41; refine hh.out.mono ?_; rintro e w2 ⟨g, cap, rfl, hg, ho, hb⟩)
  go_ret
  exact ⟨g, cap, rfl, Nat.le_trans hB.out.size hg, ho, hB.out.trans (hb.mono hB.out.size)⟩
end Go.Proofs.Ytmlgjmcenjbbeaa
