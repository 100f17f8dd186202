/- The reference's look whether two calls are the same (slipwayref27.Exact), printed by wip/tools/exact23.py. -/
import Derived.Test.YtpoongljokbgcaaDoorBi
namespace Go.Proofs.YtpoongljokbgcaaDoor
open Go.RowKit
def Tr.eqB (a b : Opr) : Bool := a.kind == b.kind && (a.path == b.path && (a.dest == b.dest && (a.off == b.off && (a.len == b.len && a.data == b.data))))
def BoolBelow (b : Bool) (w : World) (e : Ending) (w' : World) : Prop := e = .returned (.bool b) ∧ Below w.heap.size w w'
theorem boolBelow_mk {b c : Bool} {w : World} {e : Ending} {w' : World} (h : b = c) (he : e = .returned (.bool c)) (hb : Below w.heap.size w w') : BoolBelow b w e w' := by subst h; exact ⟨he, hb⟩
set_option maxRecDepth 100000 in
set_option maxHeartbeats 8000000 in
theorem exact_any (a b : Opr) (dv du : Value) (w : World) (hr : RdB w dv a.data) (hu : RdB w du b.data) :
    Calls Tryd.prog 23 #[opV a dv, opV b du] w (BoolBelow (Tr.eqB a b) w) := by
  obtain ⟨k, p, t, f, n, l⟩ := a
  obtain ⟨k2, p2, t2, f2, n2, l2⟩ := b
  unfold opV
  dsimp only at *
  have hB0 := Lib.hid (show Below w.heap.size w ((w.alloc (.cells #[.int .i64 k, .string (S p), .string (S t), .int .i64 f, .int .i64 n, dv] 44)).alloc (.cells #[.int .i64 k2, .string (S p2), .string (S t2), .int .i64 f2, .int .i64 n2, du] 44)) from ((Below.refl _ _).alloc (Nat.le_refl _) _).alloc (by rw [World.size_alloc]; omega) _)
  have c1 := convert_rd (P := Tryd.prog) Tryd.underlying28 Tryd.underlying5 Tryd.underlying9 (hr.below hB0.out)
  have c2 := convert_rd (P := Tryd.prog) Tryd.underlying28 Tryd.underlying5 Tryd.underlying9 (hu.below hB0.out)
  clear hr hu
  by_cases hk : k = k2
  case neg =>
    have ek : (k == k2) = false := by simpa using hk
    have hfin := Lib.hid (show Tr.eqB ⟨k, p, t, f, n, l⟩ ⟨k2, p2, t2, f2, n2, l2⟩ = false by unfold Tr.eqB; simp [ek])
    clear hk
    go_enter Tryd.func23, Tryd.ntmps23
    go_wp2_with fail
    go_ret
    exact boolBelow_mk hfin.out rfl hB0.out
  have ek : (k == k2) = true := by simpa using hk
  clear hk
  by_cases hp : p = p2
  case neg =>
    have ep : (p == p2) = false := by simpa using hp
    have hfin := Lib.hid (show Tr.eqB ⟨k, p, t, f, n, l⟩ ⟨k2, p2, t2, f2, n2, l2⟩ = false by unfold Tr.eqB; simp [ek, ep])
    clear hp
    go_enter Tryd.func23, Tryd.ntmps23
    go_wp2_with fail
    go_ret
    exact boolBelow_mk hfin.out rfl hB0.out
  have ep : (p == p2) = true := by simpa using hp
  clear hp
  by_cases ht : t = t2
  case neg =>
    have et : (t == t2) = false := by simpa using ht
    have hfin := Lib.hid (show Tr.eqB ⟨k, p, t, f, n, l⟩ ⟨k2, p2, t2, f2, n2, l2⟩ = false by unfold Tr.eqB; simp [ek, ep, et])
    clear ht
    go_enter Tryd.func23, Tryd.ntmps23
    go_wp2_with fail
    go_ret
    exact boolBelow_mk hfin.out rfl hB0.out
  have et : (t == t2) = true := by simpa using ht
  clear ht
  by_cases hf : f = f2
  case neg =>
    have ef : (f == f2) = false := by simpa using hf
    have hfin := Lib.hid (show Tr.eqB ⟨k, p, t, f, n, l⟩ ⟨k2, p2, t2, f2, n2, l2⟩ = false by unfold Tr.eqB; simp [ek, ep, et, ef])
    clear hf
    go_enter Tryd.func23, Tryd.ntmps23
    go_wp2_with fail
    go_ret
    exact boolBelow_mk hfin.out rfl hB0.out
  have ef : (f == f2) = true := by simpa using hf
  clear hf
  by_cases hn : n = n2
  case neg =>
    have en : (n == n2) = false := by simpa using hn
    have hfin := Lib.hid (show Tr.eqB ⟨k, p, t, f, n, l⟩ ⟨k2, p2, t2, f2, n2, l2⟩ = false by unfold Tr.eqB; simp [ek, ep, et, ef, en])
    clear hn
    go_enter Tryd.func23, Tryd.ntmps23
    go_wp2_with fail
    go_ret
    exact boolBelow_mk hfin.out rfl hB0.out
  have en : (n == n2) = true := by simpa using hn
  clear hn
  by_cases hl : l = l2
  case neg =>
    have el : (l == l2) = false := by simpa using hl
    have hfin := Lib.hid (show Tr.eqB ⟨k, p, t, f, n, l⟩ ⟨k2, p2, t2, f2, n2, l2⟩ = false by unfold Tr.eqB; simp [ek, ep, et, ef, en, el])
    clear hl
    go_enter Tryd.func23, Tryd.ntmps23
    go_wp2_with fail
    go_ret
    exact boolBelow_mk hfin.out rfl hB0.out
  have el : (l == l2) = true := by simpa using hl
  clear hl
  have hfin := Lib.hid (show Tr.eqB ⟨k, p, t, f, n, l⟩ ⟨k2, p2, t2, f2, n2, l2⟩ = true by unfold Tr.eqB; simp only [ek, ep, et, ef, en, el]; rfl)
  go_enter Tryd.func23, Tryd.ntmps23
  go_wp2_with fail
  go_ret
  exact boolBelow_mk hfin.out rfl hB0.out
end Go.Proofs.YtpoongljokbgcaaDoor
