/- The iterator over a path's ways (name.Ways): its contract. -/
import Derived.Test.YtopfkbpjfcdjnaaDoorAf
import Derived.Test.YtopfkbpjfcdjnaaDoorAg
namespace Go.Proofs.YtopfkbpjfcdjnaaDoor
open Go.RowKit Go.Shelf
attribute [local go_sem] Oper.semAt_some
theorem boxOwn_below {Bx : Nat} {W W' : World} (h : Below W.heap.size W W') (hB : Bx < W.heap.size) : boxOwn Bx W' = boxOwn Bx W := boxOwn_of (h.block Bx hB)
set_option maxRecDepth 100000 in
set_option maxHeartbeats 4000000 in
theorem ways1_in (n : Nat) (hn : 1 ≤ n) (l Bn Bx : Nat) (w0 : World) (hG0 : Gl w0) (p : List UInt8) (hBx : Bx < w0.heap.size) (J Jx : List (List UInt8) → World → Prop) (hJ : ∀ pre W W', J pre W → Below W.heap.size W W' → J pre W')
    (hY : ∀ pre x W, J pre W → pre.length < 600 → YieldAt Fence.wide (n - 1) Tryd.prog l #[.string (S x)] W fun e W' =>
      (e = .returned (.bool true) ∧ J (pre ++ [x]) W' ∧ KeepsBox Bx W W') ∨ (e = .returned (.bool false) ∧ Jx (pre ++ [x]) W'))
    (W : World) (hBn : W.cell? ⟨Bn, 0, none⟩ = some (.string (S p))) (hW : Below w0.heap.size w0 W) (hBo : boxOwn Bx W = none) (h0 : J [] W) :
    CallsIn Fence.wide n Tryd.prog 47 #[.func (.yield l) #[] #[], .pointer (some ⟨Bn, 0, none⟩)] W fun e W' => (∃ v, e = .returned v) ∧
      ((∃ ys, ys = Nm.ways p ∧ J ys W') ∨ (∃ pre, pre <+: Nm.ways p ∧ Jx pre W')) := by
  have hsp := Lib.hid (split_new p W (hG0.below hW))
  have hxl := Nm.split_fst_len p
  have hxm := Nm.split_fst_mem p
  obtain ⟨⟨xs, m⟩, hr⟩ : ∃ r, Nm.split p = r := ⟨_, rfl⟩
  rw [hr] at hsp hxl hxm
  simp only at hxl hxm
  replace hxm := Lib.hid hxm
  have hways := Lib.hid (show Nm.ways p = if m = 0 then Nm.waysOf xs else [] by unfold Nm.ways; rw [hr])
  have hj := Lib.hid (fun (k : Nat) (v' : Value) (W : World) (hm : m = 0) (hrd : RdS W v' (xs.take k)) => (by
    have := join_any (xs.take k) v' W hrd (fun x hx => by have := hxm.out x (List.mem_of_mem_take hx); omega) (by rw [List.length_take]; omega)
    rw [Nm.join_take (by rw [hr, hm]) k] at this
    exact this : Calls Tryd.prog 11 #[v'] W (JoinRes (Nm.upto (xs.take k), 0) W)))
  have hBW : Bx < W.heap.size := Nat.lt_of_lt_of_le hBx hW.size
  replace hr := Lib.hid hr
  replace hxm := Lib.hid hxm
  refine callsIn_of_wp Tryd.func47 rfl trivial ?_ rfl
  simp only [Tryd.ntmps47, List.size_toArray, List.length_cons, List.length_nil, Nat.reduceAdd, Nat.reduceSub, Array.replicate_succ, Array.replicate_zero, List.push_toArray, List.append_toArray, List.nil_append, List.cons_append]
  gi_wp2_with (refine ⟨trivial, ?_⟩; gi_at_call 20; refine (callsIn_wide.2 hsp.out).mono ?_; rintro e W1 ⟨v, rfl, hrd, hb1, hnew⟩)
  replace hrd : RdS W1 v xs := hrd
  obtain ⟨a, cap, hv⟩ := hrd.len
  have hcap : xs.length ≤ cap := by
    obtain ⟨a', c', h1, h2, _⟩ := hrd
    rw [hv] at h1; cases h1; exact h2
  subst hv
  have hJ1 := hJ _ _ _ h0 hb1
  have hBo1 : boxOwn Bx W1 = none := (boxOwn_below hb1 hBW).trans hBo
  have hsz1 := hb1.size
  have hbn : ∀ b n c, Value.slice a xs.length cap = .slice (some ⟨b, 0, none⟩) n c → W.heap.size ≤ b ∧ b < W1.heap.size := by
    intro b n c e
    rcases hnew with h | ⟨b', n', c', h, h1, h2⟩
    · rw [h] at e; cases e
    · rw [h] at e; cases e; exact ⟨h1, h2⟩
  have hform : (∃ b n c, Value.slice a xs.length cap = .slice (some ⟨b, 0, none⟩) n c) ∨ Value.slice a xs.length cap = .slice none 0 0 := by
    rcases hnew with h | ⟨b', n', c', h, _⟩
    · exact .inr h
    · exact .inl ⟨b', n', c', h⟩
  clear hnew h0 hBo
  replace hJ1 := Lib.hid hJ1
  replace hb1 := Lib.hid hb1
  replace hrd := Lib.hid hrd
  replace hbn := Lib.hid hbn
  replace hform := Lib.hid hform
  by_cases hm : m = 0
  case neg =>
    have hm1 : (m == 0) = false := by simpa using hm
    have hw0 := Lib.hid (show Nm.ways p = [] by rw [hways.out, if_neg hm])
    gi_loopw [4, 5] (fun e' n' wr => e' = .int .i64 m ∧ n' = .int .i64 0 ∧ wr = W1) (fun _ _ _ => 0)
    case atStart => exact ⟨rfl, rfl, rfl⟩
    case round =>
      obtain ⟨rfl, rfl, hw⟩ := hrel
      obtain rfl := hw.symm
      gi_wp2
      go_end0
      exact ⟨⟨_, rfl⟩, .inl (by rw [hw0.out]; exact hJ1.out)⟩
  subst hm
  have hw0 := Lib.hid (show Nm.ways p = Nm.waysOf xs by rw [hways.out, if_pos rfl])
  gi_loopw [4, 5] (fun e' n' wr => ∃ k : Nat, k ≤ xs.length + 1 ∧ e' = .int .i64 0 ∧ n' = .int .i64 k ∧ RdS wr (.slice a xs.length cap) xs ∧ W1.heap.size ≤ wr.heap.size ∧ (∀ b n c, Value.slice a xs.length cap = .slice (some ⟨b, 0, none⟩) n c → boxOwn Bx wr ≠ some b) ∧ J ((Nm.waysOf xs).take k) wr)
    (fun _ n' _ => xs.length + 1 - (intOf n').toNat)
  case atStart => exact ⟨0, Nat.zero_le _, rfl, rfl, hrd.out, Nat.le_refl _, fun b n c _ => by rw [hBo1]; simp, hJ1.out⟩
  case round =>
    obtain ⟨k, hk, rfl, rfl, hrk, hsz, hown, hJk⟩ := hrel
    replace hrk := Lib.hid hrk
    replace hown := Lib.hid hown
    replace hJk := Lib.hid hJk
    by_cases hlt : k ≤ xs.length
    · have c1 : (k : Int) ≤ cap := by omega
      have hjk := Lib.hid (hj.out k (.slice a k cap) wr rfl (hrk.out.take k k hlt rfl))
      have hlen : ((Nm.waysOf xs).take k).length < 600 := by rw [List.length_take]; omega
      have htk := Lib.hid (Nm.waysOf_take xs k hlt)
      gi_wp2_with (refine ⟨trivial, ?_⟩; gi_at_call 11; refine (callsIn_wide.2 hjk.out).mono ?_; rintro e W2 ⟨rfl, hb2⟩; obtain ⟨fn, tmps, assign, body, hy, hR⟩ := hY ((Nm.waysOf xs).take k) (Nm.upto (xs.take k)) W2 (hJ _ _ _ hJk.out hb2) hlen)
      have hkeep : ∀ W3, KeepsBox Bx W2 W3 → RdS W3 (.slice a xs.length cap) xs ∧ W1.heap.size ≤ W3.heap.size ∧ (∀ b n c, Value.slice a xs.length cap = .slice (some ⟨b, 0, none⟩) n c → boxOwn Bx W3 ≠ some b) := by
        intro W3 hk3
        have hbo2 : boxOwn Bx W2 = boxOwn Bx wr := boxOwn_below hb2 (Nat.lt_of_lt_of_le hBW (Nat.le_trans hsz1 hsz))
        refine ⟨?_, Nat.le_trans hsz (Nat.le_trans hb2.size hk3.size), ?_⟩
        · rcases hform.out with ⟨b, n', c, e⟩ | e
          · have hx := hbn.out b n' c e
            exact rd_keepsBox (hrk.out.below hb2) (.inl e) hk3 (by omega) (by rw [hbo2]; exact hown.out b n' c e)
          · exact rd_nilSlice (hrk.out.below hb2) e
        · intro b n' c e
          have hx := hbn.out b n' c e
          rcases hk3.own with e3 | hg
          · rw [e3, hbo2]; exact hown.out b n' c e
          · intro e3; have := hg b e3; have := hb2.size; omega
      replace hkeep := Lib.hid hkeep
      refine hR.mono ?_
      rintro e W3 (⟨rfl, hJ3, hk3⟩ | ⟨rfl, hJx3⟩)
      · obtain ⟨g1, g2, g3⟩ := hkeep.out W3 hk3
        gi_wp2
        go_roundw
        case rel => exact ⟨k + 1, by omega, rfl, by go_num, g1, g2, g3, by rw [htk.out]; exact hJ3⟩
        case measure => simp [intOf]; omega
      · gi_wp2
        refine bodyPost_ret (results_none rfl _ _ _) rfl ?_
        exact ⟨⟨_, rfl⟩, .inr ⟨_, by rw [hw0.out, ← htk.out]; exact List.take_prefix _ _, hJx3⟩⟩
    · have hk' : k = xs.length + 1 := by omega
      subst hk'
      have hall := Lib.hid (show (Nm.waysOf xs).take (xs.length + 1) = Nm.waysOf xs by rw [← Nm.waysOf_len, List.take_length])
      gi_wp2
      go_end0
      exact ⟨⟨_, rfl⟩, .inl (by rw [hw0.out, ← hall.out]; exact hJk.out)⟩
end Go.Proofs.YtopfkbpjfcdjnaaDoor
