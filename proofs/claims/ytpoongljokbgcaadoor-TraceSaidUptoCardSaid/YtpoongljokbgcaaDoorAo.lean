/- slipwaylaw27.TraceSaid returns true. -/
import Derived.Test.YtpoongljokbgcaaDoorAm
import Derived.Test.YtpoongljokbgcaaDoorAn
namespace Go.Proofs.YtpoongljokbgcaaDoor
open Go.RowKit
set_option maxRecDepth 100000 in
set_option maxHeartbeats 4000000 in
theorem said_long (k : Int) (w : World) (hG : Gl w) (er : Int) (n : Nat) (kd ln sz : Int) (m : Nat) (da : Option Addr) (dc : Nat) (la : Option Addr) (lc : Nat) (h : 3000 < n ∨ 100 < m) :
    Calls Tryd.prog 4 #[.int .i64 k, .agg #[.int .i64 er, .slice da n dc, .int .i64 kd, .int .i64 ln, .int .i64 sz, .slice la m lc]] w fun e w' => e = .returned (.bool true) ∧ Below w.heap.size w w' := by
  have hB0 : Below w.heap.size w (w.alloc (.cells #[.int .i64 er, .slice da n dc, .int .i64 kd, .int .i64 ln, .int .i64 sz, .slice la m lc] 33)) := (Below.refl _ _).alloc (Nat.le_refl _) _
  replace hB0 := Lib.hid hB0
  have hX0 := Lib.hid (Box.new w 33 #[.int .i64 er, .slice da n dc, .int .i64 kd, .int .i64 ln, .int .i64 sz, .slice la m lc])
  replace hG := Lib.hid hG
  have hLive := Lib.hid (fun W hG => live_any W hG)
  by_cases hn : 3000 < n
  · have t1 : ((n : Int) > 3000) := by omega
    clear h
    go_enter Tryd.func4, Tryd.ntmps4
    go_wp2_with fail
    refine (hLive.out _ (hG.out.below hB0.out)).mono ?_
    rintro e w1 ⟨rfl, hb1⟩
    have bx1 := hX0.out.below hb1
    have bw1 := hB0.out.trans (hb1.mono hB0.out.size)
    have c1 := bx1.get 1 _ rfl
    have c5 := bx1.get 5 _ rfl
    clear hb1 bx1
    go_wp2_with fail
    go_ret
    exact ⟨rfl, bw1⟩
  · have t1 : ¬ ((n : Int) > 3000) := by omega
    have t2 : ((m : Int) > 100) := by omega
    clear h
    go_enter Tryd.func4, Tryd.ntmps4
    go_wp2_with fail
    refine (hLive.out _ (hG.out.below hB0.out)).mono ?_
    rintro e w1 ⟨rfl, hb1⟩
    have bx1 := hX0.out.below hb1
    have bw1 := hB0.out.trans (hb1.mono hB0.out.size)
    have c1 := bx1.get 1 _ rfl
    have c5 := bx1.get 5 _ rfl
    clear hb1 bx1
    go_wp2_with fail
    go_ret
    exact ⟨rfl, bw1⟩
theorem said_any (k : Int) (hk : in64 k) (w : World) (hG : Gl w) (er : Int) (l : List UInt8) (kd ln sz : Int) (xs : List Ent) (hr : Res.ok ⟨er, l, kd, ln, sz, xs⟩) (da : Option Addr) (dc : Nat) (la : Option Addr) (lc : Nat)
    (hd : RdB w (.slice da l.length dc) l) (hl : RdE w (.slice la xs.length lc) xs) (hbk : xs.length ≤ 100 → Tr.bulkE xs ≤ 3900000) :
    Calls Tryd.prog 4 #[.int .i64 k, .agg #[.int .i64 er, .slice da l.length dc, .int .i64 kd, .int .i64 ln, .int .i64 sz, .slice la xs.length lc]] w fun e w' => e = .returned (.bool true) ∧ Below w.heap.size w w' := by
  by_cases h3 : 3000 < l.length
  · exact said_long k w hG er _ kd ln sz _ da dc la lc (.inl h3)
  by_cases h1 : 100 < xs.length
  · exact said_long k w hG er _ kd ln sz _ da dc la lc (.inr h1)
  replace hbk := hbk (by omega)
  by_cases h0 : er = 0
  · subst h0
    by_cases k9 : k = 9
    · subst k9; exact said_read w hG l kd ln sz xs hr da dc la lc hd hl (by omega) (by omega) hbk
    by_cases k10 : k = 10
    · subst k10; exact said_stat w hG l kd ln sz xs hr da dc la lc hd hl (by omega) (by omega) hbk
    by_cases k11 : k = 11
    · subst k11; exact said_list w hG l kd ln sz xs hr da dc la lc hd hl (by omega) (by omega) hbk
    exact said_other k hk w hG l kd ln sz xs hr da dc la lc hd hl (by omega) (by omega) hbk k9 k10 k11
  · exact said_error k hk w hG er l kd ln sz xs hr da dc la lc hd hl (by omega) (by omega) hbk h0
end Go.Proofs.YtpoongljokbgcaaDoor
