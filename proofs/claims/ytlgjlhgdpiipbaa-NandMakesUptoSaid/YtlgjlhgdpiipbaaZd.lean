/- The iterator over a slice of pages (slices.All). -/
import Derived.Test.YtlgjlhgdpiipbaaZc
namespace Go.Proofs.Ytlgjlhgdpiipbaa
open Go.RowKit Go.Shelf
attribute [local go_sem] Oper.semAt_some
/-- A list of bytes, cut or filled to a page. -/
def nrm (l : List UInt8) : List UInt8 := (l ++ rep 288 0).take 288
theorem nrm_len (l : List UInt8) : (nrm l).length = 288 := by unfold nrm; rw [List.length_take, List.length_append, rep_len]; omega
theorem nrm_eq {l : List UInt8} (h : l.length = 288) : nrm l = l := by unfold nrm; rw [← h, List.take_left]
theorem pgL_nrm (l : List UInt8) : pgL l = (nrm l).map byteV := rfl
theorem loadPg_at (W : World) (b o : Nat) (l : List UInt8) (hl : l.length = 288) (h : ∀ i u, (l.map byteV)[i]? = some u → W.cell? ⟨b, o + i, none⟩ = some u) : (loadVar 48 ⟨b, o, none⟩).run Try.prog W = .ok (.agg (cellsB l)) W := by
  have hs : (Go.sizeOf 48).run Try.prog W = .ok 288 W := by kernel_rfl
  have h2 := load288 W b o l hl (fun j hj => h j _ (by simp [hj]))
  simp [loadVar, isAgg, run_underlying Try.underlying48, hs, loadCells, h2, Result.andThen]
set_option maxRecDepth 100000 in
set_option maxHeartbeats 4000000 in
theorem all1_in (n : Nat) (hn : 1 ≤ n) (l Bl B : Nat) (w0 : World) (ps : List (List UInt8)) (la : Option Addr) (lc : Nat) (h32 : ps.length ≤ 32) (J Jx : List (List UInt8 × Nat) → World → Prop) (hJ : ∀ pre W W', J pre W → Below W.heap.size W W' → J pre W')
    (hY : ∀ pre x W, J pre W → pre.length < 600 → YieldAt Fence.wide (n - 1) Try.prog l #[.int .i64 (x.2 : Nat), pgV (nrm x.1)] W fun e W' =>
      (e = .returned (.bool true) ∧ J (pre ++ [x]) W' ∧ KeepsLow B W W') ∨ (e = .returned (.bool false) ∧ Jx (pre ++ [x]) W'))
    (W : World) (hBl : W.cell? ⟨Bl, 0, none⟩ = some (.slice la ps.length lc)) (hW : Below w0.heap.size w0 W) (hrd : RdC pgL 288 W (.slice la ps.length lc) ps) (hla : ∀ b o, la = some ⟨b, o, none⟩ → b < B) (h0 : J [] W) :
    CallsIn Fence.wide n Try.prog 55 #[.func (.yield l) #[] #[], .pointer (some ⟨Bl, 0, none⟩)] W fun e W' => (∃ v, e = .returned v) ∧
      ((∃ ys, ys = ps.zipIdx ∧ J ys W') ∨ (∃ pre, pre <+: ps.zipIdx ∧ Jx pre W')) := by
  have hz := zero48
  replace hrd := Lib.hid hrd
  replace hla := Lib.hid hla
  replace h0 := Lib.hid h0
  replace hJ := Lib.hid hJ
  refine callsIn_of_wp Try.func55 rfl trivial ?_ rfl
  simp only [Try.ntmps55, List.size_toArray, List.length_cons, List.length_nil, Nat.reduceAdd, Nat.reduceSub, Array.replicate_succ, Array.replicate_zero, List.push_toArray, List.append_toArray, List.nil_append, List.cons_append]
  gi_wp2
  gi_loopw [7] (fun i wr => ∃ k : Nat, k ≤ ps.length ∧ i = .int .i64 k ∧ RdC pgL 288 wr (.slice la ps.length lc) ps ∧ J (ps.zipIdx.take k) wr)
    (fun i _ => ps.length - (intOf i).toNat)
  case atStart => exact ⟨0, Nat.zero_le _, rfl, hrd.out, h0.out⟩
  case round =>
    obtain ⟨k, hk, rfl, hrk, hJk⟩ := hrel
    by_cases hlt : k < ps.length
    · obtain ⟨bb, o, cc, hv, _, hbb, hcell⟩ := hrk.at (by intro e; rw [e] at hlt; simp at hlt)
      cases hv
      have hsn : ps.zipIdx.take (k + 1) = ps.zipIdx.take k ++ [(ps[k], k)] := by
        rw [List.take_succ_eq_append_getElem (by simpa using hlt)]; simp
      have hel : (ps.zipIdx.take k).length < 600 := by rw [List.length_take]; omega
      have hld := loadPg_at wr bb (o + k * 288) (nrm ps[k]) (nrm_len _) (fun i u hu => hcell k hlt i u hu)
      have hnl := nrm_len ps[k]
      have hbz := Box.new wr 48 (cellsB (rep 288 0))
      obtain ⟨hst, by2, hg2⟩ := hbz.storePg (l := nrm ps[k]) (by rw [cellsB_size, rep_len]) hnl
      have hal := ((Below.refl wr.heap.size wr).alloc (Nat.le_refl _) (.cells (cellsB (rep 288 0)) 48)).grown hg2 (by rw [World.size_alloc]; omega) (fun b e => by cases e; exact Nat.le_refl _)
      obtain ⟨W2, hW2⟩ : ∃ W2, (wr.alloc (.cells (cellsB (rep 288 0)) 48)).setRow wr.heap.size (cellsB (nrm ps[k])) = W2 := ⟨_, rfl⟩
      rw [hW2] at hst by2 hal
      have hld2 := by2.loadPg hnl
      have hrk2 := hrk.below hal
      have hJ2 := hJ.out _ _ _ hJk hal
      have hI0 : (0 : Int) ≤ (k : Int) := by omega
      have hI1 : (k : Int) < (ps.length : Int) := by omega
      obtain ⟨fn, tmps, assign, body, hy, hR⟩ := hY (ps.zipIdx.take k) (ps[k], k) _ hJ2 hel
      dsimp only at hy
      obtain ⟨p, hp⟩ : ∃ p, nrm ps[k] = p := ⟨_, rfl⟩
      rw [hp] at hld hst hld2 hy
      unfold pgV at hy hst hld2
      replace hrk2 := Lib.hid hrk2
      replace hsn := Lib.hid hsn
      clear hcell hbz hg2 by2 hal hJ2 hrk hJk hW2 hel hp hnl
      gi_wp2_with (first | (refine wpListIn_load_var rfl 48 _ rfl _ rfl _ hld ?_) | (refine wpListIn_store_var rfl 48 _ _ rfl _ rfl _ rfl hst ?_) | (refine wpListIn_load_var rfl 48 _ rfl _ rfl _ hld2 ?_))
      refine hR.mono ?_
      rintro e W3 (⟨rfl, hJ3, hk3⟩ | ⟨rfl, hJx3⟩)
      · have g1 := Lib.hid (hrk2.out.low pgL_len (by decide) hk3 hla.out)
        clear hld hst hld2
        gi_wp2
        go_roundw
        case rel => exact ⟨k + 1, by omega, by go_num, g1.out, by rw [hsn.out]; exact hJ3⟩
        case measure => simp [intOf]; omega
      · clear hld hst hld2
        gi_wp2
        refine bodyPost_ret (results_none rfl _ _ _) rfl ?_
        exact ⟨⟨_, rfl⟩, .inr ⟨_, by rw [← hsn.out]; exact List.take_prefix _ _, hJx3⟩⟩
    · have hk' : k = ps.length := by omega
      subst hk'
      rw [List.take_of_length_le (by simp)] at hJk
      replace hrk := Lib.hid hrk
      gi_wp2
      go_end0
      exact ⟨⟨_, rfl⟩, .inl ⟨_, rfl, hJk⟩⟩
end Go.Proofs.Ytlgjlhgdpiipbaa
