/- live returns true; NameAt returns true. -/
import Derived.Test.YtopfkbpjfcdjnaaDoorN
import Derived.Test.YtopfkbpjfcdjnaaDoorH
namespace Go.Proofs.YtopfkbpjfcdjnaaDoor
open Go.RowKit
theorem kept_below {W : World} {r : Array Value} {e : Ending} {w' : World} (h : Kept W r e w') : e = .returned (.tuple r) ∧ Below W.heap.size W w' := ⟨h.1, below_grown h.2⟩
theorem kept1_below {W : World} {r : Value} {e : Ending} {w' : World} (h : Kept1 W r e w') : e = .returned r ∧ Below W.heap.size W w' := ⟨h.1, below_grown h.2⟩
/-- An error at a sector, just made. -/
theorem chain_at (W : World) (s n : Int) : Chain (W.alloc (.cells #[.int .i64 s, .iface 25 (.int .i64 n)] 38)) (.iface 36 (.pointer (some ⟨W.heap.size, 0, none⟩))) [.disk s W.heap.size 0] (some n) :=
  .disk s _ _ _ _ _ ((Box.new W 38 _).get 0 _ rfl) ((Box.new W 38 _).get 1 _ rfl) (.base n)
theorem chain_wrap {W : World} {E : Value} {l : List Lk} {t : Option Int} (h : Chain W E l t) (op path : ByteArray) :
    Chain (W.alloc (.cells #[.string op, .string path, E] 66)) (.iface 64 (.pointer (some ⟨W.heap.size, 0, none⟩))) (.fault op path W.heap.size 0 :: l) t :=
  .fault op path _ _ _ _ _ ((Box.new W 66 _).get 0 _ rfl) ((Box.new W 66 _).get 1 _ rfl) ((Box.new W 66 _).get 2 _ rfl) (h.keep ((Below.refl _ _).alloc (Nat.le_refl _) _))
theorem live_parent : Nm.parent [47, 97, 47, 98] = ([47, 97], [98], 0) := by decide
set_option maxRecDepth 100000 in
set_option maxHeartbeats 400000 in
theorem live_any (w : World) (hG : Gl w) (hE : ErrT w) : Calls Tryd.prog 9 #[] w fun e w' => e = .returned (.bool true) ∧ Below w.heap.size w w' := by
  have hp := Lib.hid (show Calls Tryd.prog 22 #[.string ⟨#[47, 97, 47, 98]⟩] w (ParRes (Nm.parent [47, 97, 47, 98]) w) from parent_any [47, 97, 47, 98] w hG)
  rw [live_parent] at hp
  replace hE := Lib.hid hE
  go_enter Tryd.func9, Tryd.ntmps9
  go_wp2_with fail
  refine hp.out.mono ?_
  rintro e w1 ⟨rfl, hb1⟩
  have hc1 := Lib.hid (fun W => at_err 7 80 W (by decide))
  have hc2 := Lib.hid (fun (u : TypeId) (v : Value) W => wrap_err ⟨#[114, 101, 97, 100]⟩ ⟨#[47, 97]⟩ u v W)
  go_wp2_with fail
  refine (hc1.out _).mono ?_
  rintro e w2 ⟨rfl, hw2⟩
  go_wp2_with fail
  refine (hc2.out _ _ _).mono ?_
  rintro e w3 ⟨rfl, hw3⟩
  have hch : Chain w3 (.iface 64 (.pointer (some ⟨w1.heap.size + 1, 0, none⟩))) [.fault ⟨#[114, 101, 97, 100]⟩ ⟨#[47, 97]⟩ (w1.heap.size + 1) 0, .disk 7 w1.heap.size 0] (some 80) := by
    subst hw3; subst hw2
    have := chain_wrap (chain_at w1 7 80) ⟨#[114, 101, 97, 100]⟩ ⟨#[47, 97]⟩
    rw [World.size_alloc] at this
    exact this
  have hB3 : Below w.heap.size w w3 := by
    subst hw3; subst hw2
    exact (hb1.alloc hb1.size _).alloc (by rw [World.size_alloc]; have := hb1.size; omega) _
  have hE3 := hE.out.below hB3
  clear hw3 hw2 hb1 hp hc1 hc2
  have hs := Lib.hid (sector_any _ _ _ w3 hch hE3)
  go_wp2_with fail
  refine hs.out.mono ?_
  intro e w4 hk
  obtain ⟨rfl, hb4⟩ := kept_below hk
  clear hk
  have hch4 := hch.keep hb4
  have hE4 := hE3.below hb4
  have hB4 := hB3.trans (hb4.mono hB3.size)
  have hcd := Lib.hid (code_any _ _ _ w4 hch4 hE4)
  clear hs hch hE3 hB3 hb4
  have hxx : sectorOf [.fault ⟨#[114, 101, 97, 100]⟩ ⟨#[47, 97]⟩ (w1.heap.size + 1) 0, .disk 7 w1.heap.size 0] = (7, true) := rfl
  rw [hxx]
  clear hxx
  replace hch4 := Lib.hid hch4
  replace hE4 := Lib.hid hE4
  replace hB4 := Lib.hid hB4
  go_wp2_with (first | (go_at_call 15; refine hcd.out.mono ?_; intro e w5 hk5; obtain ⟨rfl, hb5⟩ := kept1_below hk5; have hf := fatal_any _ _ _ w5 (hch4.out.keep hb5); replace hB5 := Lib.hid (hB4.out.trans (hb5.mono hB4.out.size)); replace hf := Lib.hid hf; clear hk5 hb5) | (go_at_call 18; refine hf.out.mono ?_; rintro e w6 ⟨rfl, hw6⟩; obtain rfl := hw6.symm))
  go_ret
  exact ⟨rfl, hB5.out⟩
/-- An error at a sector that wraps nothing. -/
theorem chain_none (W : World) (s : Int) : Chain (W.alloc (.cells #[.int .i64 s, .nilIface] 38)) (.iface 36 (.pointer (some ⟨W.heap.size, 0, none⟩))) [.disk s W.heap.size 0] none :=
  .diskEnd s _ _ ((Box.new W 38 _).get 0 _ rfl) ((Box.new W 38 _).get 1 _ rfl)
set_option maxRecDepth 100000 in
set_option maxHeartbeats 1000000 in
theorem nameAt_any (s n : Int) (w : World) (hG : Gl w) (hE : ErrT w) : Calls Tryd.prog 4 #[.int .i64 s, .int .i64 n] w fun e w' => e = .returned (.bool true) ∧ Below w.heap.size w w' := by
  have hl := Lib.hid (live_any w hG hE)
  replace hE := Lib.hid hE
  by_cases hn : n = 0
  · subst hn
    go_enter Tryd.func4, Tryd.ntmps4
    go_wp2_with fail
    refine hl.out.mono ?_
    rintro e w1 ⟨rfl, hb1⟩
    go_wp2_with fail
    refine (at_ok s w1).mono ?_
    rintro e w2 ⟨rfl, hw⟩
    obtain rfl := hw.symm
    go_wp2_with fail
    go_ret
    exact ⟨rfl, hb1⟩
  · have hn1 : (n == 0) = false := by simpa using hn
    have ha := Lib.hid (fun W => at_err s n W hn)
    go_enter Tryd.func4, Tryd.ntmps4
    go_wp2_with fail
    refine hl.out.mono ?_
    rintro e w1 ⟨rfl, hb1⟩
    go_wp2_with fail
    refine (ha.out w1).mono ?_
    rintro e w2 ⟨rfl, hw2⟩
    have hch2 := chain_at w1 s n
    rw [← hw2] at hch2
    have hB2 : Below w.heap.size w w2 := by subst hw2; exact hb1.alloc hb1.size _
    have hE2 := hE.out.below hB2
    have hs := Lib.hid (sector_any _ _ _ w2 hch2 hE2)
    clear hw2 hb1
    replace hch2 := Lib.hid hch2
    replace hB2 := Lib.hid hB2
    go_wp2_with fail
    refine hs.out.mono ?_
    intro e w3 hk
    obtain ⟨rfl, hb3⟩ := kept_below hk
    clear hk
    have hch3 := hch2.out.keep hb3
    have hB3 := Lib.hid (hB2.out.trans (hb3.mono hB2.out.size))
    have hE3 := hE.out.below hB3.out
    have hcd := Lib.hid (code_any _ _ _ w3 hch3 hE3)
    clear hb3 hch3 hE3
    have hxx : sectorOf [Lk.disk s w1.heap.size 0] = (s, true) := rfl
    rw [hxx]
    clear hxx
    go_wp2_with fail
    refine hcd.out.mono ?_
    intro e w4 hk
    obtain ⟨rfl, hb4⟩ := kept1_below hk
    clear hk
    have hxx : codeOf (some n) = n := rfl
    rw [hxx]
    clear hxx
    have hB4 := Lib.hid (hB3.out.trans (hb4.mono hB3.out.size))
    have hB5 := Lib.hid (hB4.out.alloc hB4.out.size (.cells #[.int .i64 s, .nilIface] 38))
    have hcd5 := Lib.hid (code_any _ _ _ _ (chain_none w4 s) (hE.out.below hB5.out))
    clear hb4
    go_wp2_with fail
    refine hcd5.out.mono ?_
    intro e w6 hk
    obtain ⟨rfl, hb6⟩ := kept1_below hk
    clear hk
    have hxx : codeOf none = 1 := rfl
    rw [hxx]
    go_wp2_with fail
    go_ret
    exact ⟨rfl, hB5.out.trans (hb6.mono hB5.out.size)⟩
end Go.Proofs.YtopfkbpjfcdjnaaDoor
