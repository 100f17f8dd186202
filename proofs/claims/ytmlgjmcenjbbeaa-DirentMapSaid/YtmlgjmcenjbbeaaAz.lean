/- The law's closure over its map; slices.ContainsFunc of it, where all entries are the map's. -/
import Derived.Test.YtmlgjmcenjbbeaaAr
import Derived.Test.YtmlgjmcenjbbeaaAv
namespace Go.Proofs.Ytmlgjmcenjbbeaa
open Go.RowKit
theorem zero24 (w : World) : (zeroValue 24).run Try.prog w = .ok (entV zeroEnt) w := by kernel_rfl
set_option maxRecDepth 100000 in
set_option maxHeartbeats 4000000 in
theorem map1_any (e : Ent) (Bm M n : Nat) (D : DataW Unit) (E : List Ent) (w : World) (hbox : Box w Bm 52 #[.map (some M)]) (hm : w.ownsMap Try.prog 9 entElem M n D) (hr : Nm.Rep D E) (hk : e.name.length ≤ maxLen) (hf : Nm.findIn E e.name = some e) :
    Calls Try.prog 35 #[entV e, .pointer (some ⟨Bm, 0, none⟩)] w (BoolB false w) := by
  obtain ⟨nm, ino, kd⟩ := e
  have hB := (Below.refl w.heap.size w).alloc (Nat.le_refl _) (.cells #[.string (S nm), .int .i64 ino, .int .i64 kd] 24)
  have hlk := lookup_ent (map_below hm hB) hr 52 Try.underlying52 (zero24 _) nm hk
  rw [hf] at hlk
  have b0 := (hbox.below hB).get 0 _ rfl
  have bx := Box.new w 24 #[.string (S nm), .int .i64 ino, .int .i64 kd]
  have x0 := bx.get 0 _ rfl
  have x1 := bx.get 1 _ rfl
  have x2 := bx.get 2 _ rfl
  have hne := ent_neq_same nm ino kd
  unfold entV at hlk ⊢
  dsimp only [Option.getD_some] at hlk ⊢
  replace hB := Lib.hid hB
  clear hbox hm hr hf bx
  go_enter Try.func35, Try.ntmps35
  go_wp2_with fail
  go_ret
  exact ⟨rfl, hB.out⟩
set_option maxRecDepth 100000 in
set_option maxHeartbeats 4000000 in
theorem idx53_none (cp : Addr) (l : List Ent) (v : Value) (w : World) (hrd : RdE w v l) (hl : l.length ≤ 1000) (hf : ∀ e ∈ l, ∀ W, Below w.heap.size w W → Calls Try.prog 35 #[entV e, .pointer (some cp)] W (BoolB false W)) :
    Calls Try.prog 53 #[v, .func (.func 35) #[] #[.pointer (some cp)]] w (NumB (-1) w) := by
  obtain ⟨la, lc, rfl⟩ := hrd.len
  replace hrd := Lib.hid hrd
  replace hf := Lib.hid hf
  go_enter Try.func53, Try.ntmps53
  go_wp2
  go_loopw [8] (fun i wr => ∃ k : Nat, k ≤ l.length ∧ i = .int .i64 k ∧ Below w.heap.size w wr) (fun i _ => l.length - (intOf i).toNat)
  case atStart => exact ⟨0, by omega, rfl, Below.refl _ _⟩
  case round =>
    obtain ⟨k, hk, rfl, hW⟩ := hrel
    have hsz := hW.size
    by_cases hlt : k < l.length
    · obtain ⟨bb, o, cc, hv, _, hbb, hcell⟩ := (hrd.out.below hW).at (by intro e; rw [e] at hlt; simp at hlt)
      cases hv
      have hfc := hf.out l[k] (List.getElem_mem hlt) wr hW
      have c0 := hcell k hlt 0
      have c1 := hcell k hlt 1
      have c2 := hcell k hlt 2
      clear hcell
      obtain ⟨q, hq⟩ : ∃ q, l[k] = q := ⟨_, rfl⟩
      rw [hq] at c0 c1 c2 hfc
      unfold entV at hfc
      obtain ⟨qn, qi, qk⟩ := q
      replace c0 := c0 _ rfl
      replace c1 := c1 _ rfl
      replace c2 := c2 _ rfl
      dsimp only at c0 c1 c2 hfc
      replace c0 : wr.cell? ⟨bb, o + k * 3, none⟩ = _ := c0
      clear hq
      replace hfc := Lib.hid hfc
      replace hW := Lib.hid hW
      have hI0 : (0 : Int) ≤ (k : Int) := by omega
      have hI1 : (k : Int) < (l.length : Int) := by omega
      go_wp2_with (go_at_call 35; (with_reducible refine hfc.out.mono ?_); rintro e w2 ⟨rfl, hb2⟩)
      go_roundw
      case rel => exact ⟨k + 1, by omega, by go_num, hW.out.trans (hb2.mono hsz)⟩
      case measure => simp [intOf]; omega
    · have hk' : k = l.length := by omega
      subst hk'
      replace hW := Lib.hid hW
      go_wp2
      go_ret
      exact ⟨rfl, hW.out⟩
set_option maxRecDepth 100000 in
set_option maxHeartbeats 4000000 in
theorem contains_none (cp : Addr) (l : List Ent) (v : Value) (w : World) (hrd : RdE w v l) (hl : l.length ≤ 1000) (hf : ∀ e ∈ l, ∀ W, Below w.heap.size w W → Calls Try.prog 35 #[entV e, .pointer (some cp)] W (BoolB false W)) :
    Calls Try.prog 34 #[v, .func (.func 35) #[] #[.pointer (some cp)]] w (BoolB false w) := by
  have h53 := Lib.hid (idx53_none cp l v w hrd hl hf)
  clear hrd hf
  go_enter Try.func34, Try.ntmps34
  go_wp2_with fail
  refine h53.out.mono ?_
  rintro e w2 ⟨rfl, hb⟩
  replace hb := Lib.hid hb
  go_wp2_with fail
  go_ret
  exact ⟨rfl, hb.out⟩
end Go.Proofs.Ytmlgjmcenjbbeaa
