/- Of which call an error is (name.Op). -/
import Derived.Test.YtopfkbpjfcdjnaaDoorP
import Derived.BigQuiet
import Derived.OwnWalk
namespace Go.Proofs.YtopfkbpjfcdjnaaDoor
open Go.RowKit Go.Extern.Stop Go.Stop Go.Extern
/-- What Op tells. -/
def opOf (l : List Lk) : ByteArray × ByteArray × Bool := match firstFault l with | some x => (x.1, x.2.1, true) | none => (⟨#[]⟩, ⟨#[]⟩, false)
set_option maxHeartbeats 4000000 in
theorem op_any (E : Value) (l : List Lk) (t : Option Int) (W : World) (hch : Chain W E l t) (hG : ErrT W) :
    Calls Tryd.prog 17 #[E] W (Kept W #[.string (opOf l).1, .string (opOf l).2.1, .bool (opOf l).2.2]) := by
  have hne : ∃ u v, E = .iface u v := by cases hch <;> exact ⟨_, _, rfl⟩
  have hcall := Lib.hid (as64_any _ l t W.heap.size (.pointer none) (W.alloc (.cells #[.pointer none] 64)) (hch.keep ((Below.refl _ _).alloc (Nat.le_refl _) _)) (Box.new W 64 _) (hG.below ((Below.refl _ _).alloc (Nat.le_refl _) _)))
  have hg := Lib.hid (grown_alloc W (.cells #[.pointer none] 64) none)
  have hfc := Lib.hid (fun (op path : ByteArray) (b o : Nat) (h : firstFault l = some (op, path, b, o)) => firstFault_cell hch h)
  clear hch hG
  obtain ⟨u1, v1, rfl⟩ := hne
  unfold opOf faultV at *
  rcases hf : firstFault l with _ | ⟨op, path, b, o⟩
  · rw [hf] at hcall
    go_enter Tryd.func17, Tryd.ntmps17
    go_wp2_with (go_at_call 32; refine hcall.out.mono ?_; rintro e w' ⟨rfl, hr⟩)
    go_ret3
    exact ⟨rfl, grown_trans hg.out hr⟩
  · rw [hf] at hcall
    obtain ⟨q1, q2⟩ := hfc.out op path b o hf
    replace q1 := Lib.hid q1
    replace q2 := Lib.hid q2
    clear hfc
    go_enter Tryd.func17, Tryd.ntmps17
    go_wp2_with (go_at_call 32; refine hcall.out.mono ?_; rintro e w' ⟨rfl, hr1, hr2⟩; have hr3 := hr1.get 0 _ rfl; have hr4 := cell_own q1.out hr2; have hr5 := cell_own q2.out hr2; simp only at hr3)
    go_quiet (fail)
    go_wp2
    go_ret3
    exact ⟨rfl, grown_trans (grown_own hr2) ⟨rfl, rfl, rfl, Nat.le_refl _, fun _ _ _ => rfl⟩⟩
set_option maxHeartbeats 1000000 in
theorem op_nil (W : World) : Calls Tryd.prog 17 #[.nilIface] W (Kept W #[.string ⟨#[]⟩, .string ⟨#[]⟩, .bool false]) := by
  have hg := Lib.hid (grown_alloc W (.cells #[.pointer none] 64) none)
  go_enter Tryd.func17, Tryd.ntmps17
  go_wp2
  go_ret3
  exact ⟨rfl, hg.out⟩
end Go.Proofs.YtopfkbpjfcdjnaaDoor
