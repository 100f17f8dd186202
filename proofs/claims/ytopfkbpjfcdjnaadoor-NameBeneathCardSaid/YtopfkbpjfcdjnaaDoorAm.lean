/- NamePaths returns true. -/
import Derived.Test.YtopfkbpjfcdjnaaDoorAl
import Derived.Test.YtopfkbpjfcdjnaaDoorU
namespace Go.Proofs.YtopfkbpjfcdjnaaDoor
open Go.RowKit
theorem ownTexts_rd {xs : List (List UInt8)} {w : World} {e : Ending} {w' : World} (h : OwnTexts xs w e w') : ∃ v, e = .returned v ∧ RdS w' v xs ∧ Below w.heap.size w w' := by
  obtain ⟨v, h1, h2, h3⟩ := h
  exact ⟨v, h1, Rd.of_own h2, h3⟩
theorem ways_len (p : List UInt8) : (Nm.ways p).length ≤ 514 := by
  unfold Nm.ways
  split
  · rw [Nm.waysOf_len]; have := Nm.split_fst_len p; omega
  · simp
set_option maxRecDepth 100000 in
set_option maxHeartbeats 4000000 in
theorem paths_any (p d : List UInt8) (w : World) (hG : Gl w) (hE : ErrT w) (hl : p.length ≤ 140737488355328) :
    Calls Tryd.prog 8 #[.string (S p), .string (S d)] w fun e w' => e = .returned (.bool true) ∧ Below w.heap.size w w' := by
  have hlive := Lib.hid (live_any w hG hE)
  have h20 := Lib.hid (fun W hG => split_any p W hG)
  have h25 := Lib.hid (fun W => splitr_any p W)
  have h22 := Lib.hid (fun W hG => parent_any p W hG)
  have h26 := Lib.hid (fun W => parentr_any p W)
  have h23 := Lib.hid (fun W hG => under_any p d W hG)
  have h27 := Lib.hid (fun W => underr_any p d W)
  have h24 := Lib.hid (fun W hG => ways_any p W hG)
  have h28 := Lib.hid (fun W => waysr_any p W)
  have h29 := Lib.hid (fun W => check_any p W hl)
  have h30 := Lib.hid (fun W => checkr_any p W hl)
  have hsl := Nm.split_fst_len p
  have hwl := ways_len p
  obtain ⟨⟨ls, n⟩, hs⟩ : ∃ r, Nm.split p = r := ⟨_, rfl⟩
  obtain ⟨⟨pa, pb, pn⟩, hp⟩ : ∃ r, Nm.parent p = r := ⟨_, rfl⟩
  obtain ⟨wy, hwy⟩ : ∃ r, Nm.ways p = r := ⟨_, rfl⟩
  obtain ⟨un, hun⟩ : ∃ r, Nm.under p d = r := ⟨_, rfl⟩
  obtain ⟨ck, hck⟩ : ∃ r, Nm.check p = r := ⟨_, rfl⟩
  rw [hs] at h20 h25 hsl
  rw [hp] at h22 h26
  rw [hwy] at h24 h28 hwl
  rw [hun] at h23 h27
  rw [hck] at h29 h30
  clear hs hp hwy hun hck hl
  have heq := Lib.hid (fun v u W hv hu => equalS_true ls v u W hv hu (by simp only at hsl; omega))
  have heq2 := Lib.hid (fun v u W hv hu => equalS_true wy v u W hv hu (by omega))
  clear hsl hwl
  replace hG := Lib.hid hG
  clear hE
  go_enter Tryd.func8, Tryd.ntmps8
  go_wp2_with fail
  refine hlive.out.mono ?_
  rintro e w1 ⟨rfl, hb1⟩
  replace hb1 := Lib.hid hb1
  go_wp2_with fail
  refine (h20.out w1 (hG.out.below hb1.out)).mono ?_
  rintro e w2 ⟨v, rfl, hv, hb⟩
  replace hv : RdS w2 v ls := hv
  have hB2 := Lib.hid (hb1.out.trans (hb.mono hb1.out.size))
  replace hv := Lib.hid hv
  clear hb
  go_wp2_with fail
  refine (h25.out w2).mono ?_
  rintro e w3 ⟨u, rfl, hu, hb⟩
  replace hu : RdS w3 u ls := hu
  have hv3 := Lib.hid (hv.out.below hb)
  have hB3 := Lib.hid (hB2.out.trans (hb.mono hB2.out.size))
  replace hu := Lib.hid hu
  clear hb
  go_wp2_with fail
  refine (h22.out w3 (hG.out.below hB3.out)).mono ?_
  rintro e w4 ⟨rfl, hb⟩
  have hv4 := Lib.hid (hv3.out.below hb)
  have hu4 := Lib.hid (hu.out.below hb)
  have hB4 := Lib.hid (hB3.out.trans (hb.mono hB3.out.size))
  clear hb
  go_wp2_with fail
  refine (h26.out w4).mono ?_
  rintro e w5 ⟨rfl, hb⟩
  have hv5 := Lib.hid (hv4.out.below hb)
  have hu5 := Lib.hid (hu4.out.below hb)
  have hB5 := Lib.hid (hB4.out.trans (hb.mono hB4.out.size))
  clear hb
  go_wp2_with fail
  refine (heq.out _ _ _ hv5.out hu5.out).mono ?_
  rintro e w6 ⟨rfl, hb⟩
  have hB6 := Lib.hid (hB5.out.trans (hb.mono hB5.out.size))
  clear hb
  go_wp2_with fail
  refine (h23.out w6 (hG.out.below hB6.out)).mono ?_
  rintro e w7 ⟨rfl, hb⟩
  have hB7 := Lib.hid (hB6.out.trans (hb.mono hB6.out.size))
  clear hb
  go_wp2_with fail
  refine (h27.out w7).mono ?_
  rintro e w8 ⟨rfl, hb⟩
  have hB8 := Lib.hid (hB7.out.trans (hb.mono hB7.out.size))
  clear hb
  go_wp2_with fail
  refine (h24.out w8 (hG.out.below hB8.out)).mono ?_
  intro e w9 h9
  obtain ⟨y1, rfl, hy1, hb⟩ := ownTexts_rd h9
  clear h9
  have hB9 := Lib.hid (hB8.out.trans (hb.mono hB8.out.size))
  replace hy1 := Lib.hid hy1
  clear hb
  go_wp2_with fail
  refine (h28.out w9).mono ?_
  intro e w10 h10
  obtain ⟨y2, rfl, hy2, hb⟩ := ownTexts_rd h10
  clear h10
  have hB10 := Lib.hid (hB9.out.trans (hb.mono hB9.out.size))
  have hy3 := Lib.hid (hy1.out.below hb)
  replace hy2 := Lib.hid hy2
  clear hb
  go_wp2_with fail
  refine (heq2.out _ _ _ hy3.out hy2.out).mono ?_
  rintro e w11 ⟨rfl, hb⟩
  have hB11 := Lib.hid (hB10.out.trans (hb.mono hB10.out.size))
  clear hb
  go_wp2_with fail
  refine (h29.out w11).mono ?_
  rintro e w12 ⟨rfl, hw⟩
  obtain rfl := hw.symm
  go_wp2_with fail
  refine (h30.out _).mono ?_
  rintro e w13 ⟨rfl, hw⟩
  obtain rfl := hw.symm
  go_wp2_with fail
  go_ret
  exact ⟨rfl, hB11.out⟩
end Go.Proofs.YtopfkbpjfcdjnaaDoor
