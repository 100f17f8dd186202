/- errors.As where the target is an api.Errno, a *api.DiskError or a *api.Fault, over a chain of any length. Printed by wip/tools/nameas3.py. -/
import Derived.Test.YtopfkbpjfcdjnaaDoorC
import Derived.Test.YtopfkbpjfcdjnaaDoorD
import Derived.Test.YtopfkbpjfcdjnaaDoorE
namespace Go.Proofs.YtopfkbpjfcdjnaaDoor
open Go.RowKit Go.Extern.Stop Go.Stop Go.Extern
/-- errors' own variable holds the handle of the type 'error'. -/
def ErrT (W : World) : Prop := W.cell? ⟨0, 0, none⟩ = some (.iface 97 (.agg #[.pointer (some ⟨4, 31, none⟩)]))
theorem ErrT.below {W W' : World} (h : ErrT W) (hb : Below W.heap.size W W') : ErrT W' := cell_below h hb
theorem asRes_grown {T : TypeId} {B : Nat} {W W' : World} {o : Option Value} {e : Ending} {w' : World} (hg : W.grownBy W' none) (h : AsRes T B W' o e w') : AsRes T B W o e w' := by
  cases o with
  | none => exact ⟨h.1, grown_trans hg h.2⟩
  | some v => exact ⟨h.1, h.2.1, grown_trans (grown_none hg _) h.2.2⟩
set_option maxRecDepth 1000000 in
set_option maxHeartbeats 4000000 in
theorem as25_any (E : Value) (l : List Lk) (t : Option Int) (B : Nat) (old : Value) (W : World) (hch : Chain W E l t) (hBx : Box W B 25 #[old]) (hG : ErrT W) :
    Calls Tryd.prog 32 #[E, .iface 63 (.pointer (some ⟨B, 0, none⟩))] W (AsRes 25 B W (numV t)) := by
  have h41 := @run_callFunc_extern Tryd.prog 41 _ (fun args => ReflectliteValue.unpack (args.getD 0 (.tuple #[]))) Tryd.func41 (by kernel_rfl) (by kernel_rfl) (by kernel_rfl) (by kernel_rfl)
  have h42 := @run_callFunc_extern Tryd.prog 42 _ (ReflectliteValue.methodAny (ReflectliteValue.valueError "reflectlite.Value.Type" 0) (fun t _ _ _ => ReflectliteType.toType t)) Tryd.func42 (by kernel_rfl) (by kernel_rfl) (by kernel_rfl) (by kernel_rfl)
  have h43 := @run_callFunc_extern Tryd.prog 43 _ (ReflectliteValue.method (ReflectliteValue.valueError "reflectlite.Value.IsNil" 0) ReflectliteValue.isNil) Tryd.func43 (by kernel_rfl) (by kernel_rfl) (by kernel_rfl) (by kernel_rfl)
  have h83 := @run_callFunc_extern Tryd.prog 83 _ (ReflectliteType.abiMethod fun t => do pure (.int .u8 (← Rtype.kind t))) Tryd.func83 (by kernel_rfl) (by kernel_rfl) (by kernel_rfl) (by kernel_rfl)
  have h98 := @run_callFunc_extern Tryd.prog 98 _ (ReflectliteType.method ReflectliteType.elem) Tryd.func98 (by kernel_rfl) (by kernel_rfl) (by kernel_rfl) (by kernel_rfl)
  have h99 := @run_callFunc_extern Tryd.prog 99 _ (ReflectliteType.relation "Implements" ReflectliteType.implements_) Tryd.func99 (by kernel_rfl) (by kernel_rfl) (by kernel_rfl) (by kernel_rfl)
  have f6 := valueOf63
  have f7 := type63
  have mK := mKind
  have mE := mElem
  have mI := mImplements
  have kp := kind63
  have kt := kind25
  have ep := elem63
  have it := implements25
  have hne : ∃ u v, E = .iface u v := by cases hch <;> exact ⟨_, _, rfl⟩
  obtain ⟨u1, v1, rfl⟩ := hne
  have hb2 : Below W.heap.size W ((W.alloc (.cells #[.pointer (some ⟨B, 0, none⟩)] 63)).alloc (.cells #[.pointer (some ⟨4, 63, none⟩), .pointer (some ⟨W.heap.size, 0, none⟩), .int .u64 150] 89)) := ((Below.refl _ _).alloc (Nat.le_refl _) _).alloc (by rw [World.size_alloc]; omega) _
  have hg2 := grown_trans (grown_alloc W (.cells #[.pointer (some ⟨B, 0, none⟩)] 63) none) (grown_alloc (W.alloc (.cells #[.pointer (some ⟨B, 0, none⟩)] 63)) (.cells #[.pointer (some ⟨4, 63, none⟩), .pointer (some ⟨W.heap.size, 0, none⟩), .int .u64 150] 89) none)
  have hA := ((Box.new W 63 #[.pointer (some ⟨B, 0, none⟩)]).alloc (.cells #[.pointer (some ⟨4, 63, none⟩), .pointer (some ⟨W.heap.size, 0, none⟩), .int .u64 150] 89)).get 0 _ rfl
  have n8 := isNil63 ⟨W.heap.size, 0, none⟩ ⟨B, 0, none⟩ _ hA
  have hE := hG.below hb2
  unfold ErrT at hE
  have hcall := Lib.hid (as25_loop (.iface u1 v1) l t B W.heap.size old _ (hch.keep hb2) (hBx.below hb2) hA)
  replace hg2 := Lib.hid hg2
  clear hch hBx hG hb2 hA
  obtain ⟨o, ho⟩ : ∃ o, numV t = o := ⟨_, rfl⟩
  rw [ho] at hcall ⊢
  clear ho
  cases o with
  | none =>
    go_enter Tryd.func32, Tryd.ntmps32
    go_wp2_with (go_at_call 44; refine hcall.out.mono ?_; rintro e w' ⟨rfl, hr⟩)
    go_ret
    exact ⟨rfl, grown_trans hg2.out hr⟩
  | some v =>
    go_enter Tryd.func32, Tryd.ntmps32
    go_wp2_with (go_at_call 44; refine hcall.out.mono ?_; rintro e w' ⟨rfl, hr1, hr2⟩)
    go_ret
    exact ⟨rfl, hr1, grown_trans (grown_none hg2.out _) hr2⟩
set_option maxRecDepth 1000000 in
set_option maxHeartbeats 4000000 in
theorem as36_any (E : Value) (l : List Lk) (t : Option Int) (B : Nat) (old : Value) (W : World) (hch : Chain W E l t) (hBx : Box W B 36 #[old]) (hG : ErrT W) :
    Calls Tryd.prog 32 #[E, .iface 62 (.pointer (some ⟨B, 0, none⟩))] W (AsRes 36 B W (diskV l)) := by
  have h41 := @run_callFunc_extern Tryd.prog 41 _ (fun args => ReflectliteValue.unpack (args.getD 0 (.tuple #[]))) Tryd.func41 (by kernel_rfl) (by kernel_rfl) (by kernel_rfl) (by kernel_rfl)
  have h42 := @run_callFunc_extern Tryd.prog 42 _ (ReflectliteValue.methodAny (ReflectliteValue.valueError "reflectlite.Value.Type" 0) (fun t _ _ _ => ReflectliteType.toType t)) Tryd.func42 (by kernel_rfl) (by kernel_rfl) (by kernel_rfl) (by kernel_rfl)
  have h43 := @run_callFunc_extern Tryd.prog 43 _ (ReflectliteValue.method (ReflectliteValue.valueError "reflectlite.Value.IsNil" 0) ReflectliteValue.isNil) Tryd.func43 (by kernel_rfl) (by kernel_rfl) (by kernel_rfl) (by kernel_rfl)
  have h83 := @run_callFunc_extern Tryd.prog 83 _ (ReflectliteType.abiMethod fun t => do pure (.int .u8 (← Rtype.kind t))) Tryd.func83 (by kernel_rfl) (by kernel_rfl) (by kernel_rfl) (by kernel_rfl)
  have h98 := @run_callFunc_extern Tryd.prog 98 _ (ReflectliteType.method ReflectliteType.elem) Tryd.func98 (by kernel_rfl) (by kernel_rfl) (by kernel_rfl) (by kernel_rfl)
  have h99 := @run_callFunc_extern Tryd.prog 99 _ (ReflectliteType.relation "Implements" ReflectliteType.implements_) Tryd.func99 (by kernel_rfl) (by kernel_rfl) (by kernel_rfl) (by kernel_rfl)
  have f6 := valueOf62
  have f7 := type62
  have mK := mKind
  have mE := mElem
  have mI := mImplements
  have kp := kind62
  have kt := kind36
  have ep := elem62
  have it := implements36
  have hne : ∃ u v, E = .iface u v := by cases hch <;> exact ⟨_, _, rfl⟩
  obtain ⟨u1, v1, rfl⟩ := hne
  have hb2 : Below W.heap.size W ((W.alloc (.cells #[.pointer (some ⟨B, 0, none⟩)] 62)).alloc (.cells #[.pointer (some ⟨4, 62, none⟩), .pointer (some ⟨W.heap.size, 0, none⟩), .int .u64 150] 89)) := ((Below.refl _ _).alloc (Nat.le_refl _) _).alloc (by rw [World.size_alloc]; omega) _
  have hg2 := grown_trans (grown_alloc W (.cells #[.pointer (some ⟨B, 0, none⟩)] 62) none) (grown_alloc (W.alloc (.cells #[.pointer (some ⟨B, 0, none⟩)] 62)) (.cells #[.pointer (some ⟨4, 62, none⟩), .pointer (some ⟨W.heap.size, 0, none⟩), .int .u64 150] 89) none)
  have hA := ((Box.new W 62 #[.pointer (some ⟨B, 0, none⟩)]).alloc (.cells #[.pointer (some ⟨4, 62, none⟩), .pointer (some ⟨W.heap.size, 0, none⟩), .int .u64 150] 89)).get 0 _ rfl
  have n8 := isNil62 ⟨W.heap.size, 0, none⟩ ⟨B, 0, none⟩ _ hA
  have hE := hG.below hb2
  unfold ErrT at hE
  have hcall := Lib.hid (as36_loop (.iface u1 v1) l t B W.heap.size old _ (hch.keep hb2) (hBx.below hb2) hA)
  replace hg2 := Lib.hid hg2
  clear hch hBx hG hb2 hA
  obtain ⟨o, ho⟩ : ∃ o, diskV l = o := ⟨_, rfl⟩
  rw [ho] at hcall ⊢
  clear ho
  cases o with
  | none =>
    go_enter Tryd.func32, Tryd.ntmps32
    go_wp2_with (go_at_call 44; refine hcall.out.mono ?_; rintro e w' ⟨rfl, hr⟩)
    go_ret
    exact ⟨rfl, grown_trans hg2.out hr⟩
  | some v =>
    go_enter Tryd.func32, Tryd.ntmps32
    go_wp2_with (go_at_call 44; refine hcall.out.mono ?_; rintro e w' ⟨rfl, hr1, hr2⟩)
    go_ret
    exact ⟨rfl, hr1, grown_trans (grown_none hg2.out _) hr2⟩
set_option maxRecDepth 1000000 in
set_option maxHeartbeats 4000000 in
theorem as64_any (E : Value) (l : List Lk) (t : Option Int) (B : Nat) (old : Value) (W : World) (hch : Chain W E l t) (hBx : Box W B 64 #[old]) (hG : ErrT W) :
    Calls Tryd.prog 32 #[E, .iface 67 (.pointer (some ⟨B, 0, none⟩))] W (AsRes 64 B W (faultV l)) := by
  have h41 := @run_callFunc_extern Tryd.prog 41 _ (fun args => ReflectliteValue.unpack (args.getD 0 (.tuple #[]))) Tryd.func41 (by kernel_rfl) (by kernel_rfl) (by kernel_rfl) (by kernel_rfl)
  have h42 := @run_callFunc_extern Tryd.prog 42 _ (ReflectliteValue.methodAny (ReflectliteValue.valueError "reflectlite.Value.Type" 0) (fun t _ _ _ => ReflectliteType.toType t)) Tryd.func42 (by kernel_rfl) (by kernel_rfl) (by kernel_rfl) (by kernel_rfl)
  have h43 := @run_callFunc_extern Tryd.prog 43 _ (ReflectliteValue.method (ReflectliteValue.valueError "reflectlite.Value.IsNil" 0) ReflectliteValue.isNil) Tryd.func43 (by kernel_rfl) (by kernel_rfl) (by kernel_rfl) (by kernel_rfl)
  have h83 := @run_callFunc_extern Tryd.prog 83 _ (ReflectliteType.abiMethod fun t => do pure (.int .u8 (← Rtype.kind t))) Tryd.func83 (by kernel_rfl) (by kernel_rfl) (by kernel_rfl) (by kernel_rfl)
  have h98 := @run_callFunc_extern Tryd.prog 98 _ (ReflectliteType.method ReflectliteType.elem) Tryd.func98 (by kernel_rfl) (by kernel_rfl) (by kernel_rfl) (by kernel_rfl)
  have h99 := @run_callFunc_extern Tryd.prog 99 _ (ReflectliteType.relation "Implements" ReflectliteType.implements_) Tryd.func99 (by kernel_rfl) (by kernel_rfl) (by kernel_rfl) (by kernel_rfl)
  have f6 := valueOf67
  have f7 := type67
  have mK := mKind
  have mE := mElem
  have mI := mImplements
  have kp := kind67
  have kt := kind64
  have ep := elem67
  have it := implements64
  have hne : ∃ u v, E = .iface u v := by cases hch <;> exact ⟨_, _, rfl⟩
  obtain ⟨u1, v1, rfl⟩ := hne
  have hb2 : Below W.heap.size W ((W.alloc (.cells #[.pointer (some ⟨B, 0, none⟩)] 67)).alloc (.cells #[.pointer (some ⟨4, 67, none⟩), .pointer (some ⟨W.heap.size, 0, none⟩), .int .u64 150] 89)) := ((Below.refl _ _).alloc (Nat.le_refl _) _).alloc (by rw [World.size_alloc]; omega) _
  have hg2 := grown_trans (grown_alloc W (.cells #[.pointer (some ⟨B, 0, none⟩)] 67) none) (grown_alloc (W.alloc (.cells #[.pointer (some ⟨B, 0, none⟩)] 67)) (.cells #[.pointer (some ⟨4, 67, none⟩), .pointer (some ⟨W.heap.size, 0, none⟩), .int .u64 150] 89) none)
  have hA := ((Box.new W 67 #[.pointer (some ⟨B, 0, none⟩)]).alloc (.cells #[.pointer (some ⟨4, 67, none⟩), .pointer (some ⟨W.heap.size, 0, none⟩), .int .u64 150] 89)).get 0 _ rfl
  have n8 := isNil67 ⟨W.heap.size, 0, none⟩ ⟨B, 0, none⟩ _ hA
  have hE := hG.below hb2
  unfold ErrT at hE
  have hcall := Lib.hid (as64_loop (.iface u1 v1) l t B W.heap.size old _ (hch.keep hb2) (hBx.below hb2) hA)
  replace hg2 := Lib.hid hg2
  clear hch hBx hG hb2 hA
  obtain ⟨o, ho⟩ : ∃ o, faultV l = o := ⟨_, rfl⟩
  rw [ho] at hcall ⊢
  clear ho
  cases o with
  | none =>
    go_enter Tryd.func32, Tryd.ntmps32
    go_wp2_with (go_at_call 44; refine hcall.out.mono ?_; rintro e w' ⟨rfl, hr⟩)
    go_ret
    exact ⟨rfl, grown_trans hg2.out hr⟩
  | some v =>
    go_enter Tryd.func32, Tryd.ntmps32
    go_wp2_with (go_at_call 44; refine hcall.out.mono ?_; rintro e w' ⟨rfl, hr1, hr2⟩)
    go_ret
    exact ⟨rfl, hr1, grown_trans (grown_none hg2.out _) hr2⟩
end Go.Proofs.YtopfkbpjfcdjnaaDoor
