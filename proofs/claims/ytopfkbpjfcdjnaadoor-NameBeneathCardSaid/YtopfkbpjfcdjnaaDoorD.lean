/- errors.as where the target is a *api.DiskError: the first link of that type in the chain, wherever it stands. Printed by wip/tools/nameas2.py. -/
import Derived.Test.YtopfkbpjfcdjnaaDoorB
import Derived.LoopTactic
namespace Go.Proofs.YtopfkbpjfcdjnaaDoor
open Go.RowKit Go.Extern.Stop Go.Stop Go.Extern
set_option maxRecDepth 1000000 in
set_option maxHeartbeats 4000000 in
theorem as36_loop (E : Value) (l : List Lk) (t : Option Int) (B ab : Nat) (old : Value) (W : World) (hch : Chain W E l t) (hBx : Box W B 36 #[old]) (hAb : W.cell? ⟨ab, 0, none⟩ = some (.pointer (some ⟨B, 0, none⟩))) :
    Calls Tryd.prog 44 #[E, .iface 62 (.pointer (some ⟨B, 0, none⟩)), .agg #[.pointer (some ⟨4, 62, none⟩), .pointer (some ⟨ab, 0, none⟩), .int .u64 150], .iface 97 (.agg #[.pointer (some ⟨4, 36, none⟩)])] W fun e w' =>
      AsRes 36 B W (diskV l) e w' := by
  have h33 := @run_callFunc_extern Tryd.prog 33 _ ReflectliteType.typeOf Tryd.func33 (by kernel_rfl) (by kernel_rfl) (by kernel_rfl) (by kernel_rfl)
  have h96 := @run_callFunc_extern Tryd.prog 96 _ (ReflectliteType.relation "AssignableTo" ReflectliteType.assignableTo) Tryd.func96 (by kernel_rfl) (by kernel_rfl) (by kernel_rfl) (by kernel_rfl)
  have h41 := @run_callFunc_extern Tryd.prog 41 _ (fun args => ReflectliteValue.unpack (args.getD 0 (.tuple #[]))) Tryd.func41 (by kernel_rfl) (by kernel_rfl) (by kernel_rfl) (by kernel_rfl)
  have h50 := @run_callFunc_extern Tryd.prog 50 _ (ReflectliteValue.method (ReflectliteValue.valueError "reflectlite.Value.Elem" 0) ReflectliteValue.elem) Tryd.func50 (by kernel_rfl) (by kernel_rfl) (by kernel_rfl) (by kernel_rfl)
  have h51 := @run_callFunc_extern Tryd.prog 51 _ ReflectliteValue.set Tryd.func51 (by kernel_rfl) (by kernel_rfl) (by kernel_rfl) (by kernel_rfl)
  have mA := mAssignableTo
  obtain ⟨R, HR⟩ : ∃ R : Ending → World → Prop, (fun e w' => AsRes 36 B W (diskV l) e w') = R := ⟨_, rfl⟩
  rw [HR]
  replace HR := Lib.hid HR
  have hg := grown_alloc W (.cells #[.pointer (some ⟨4, 62, none⟩), .pointer (some ⟨ab, 0, none⟩), .int .u64 150] 89) none
  have hc0 := Lib.hid (hch.keep (W' := W.alloc (.cells #[.pointer (some ⟨4, 62, none⟩), .pointer (some ⟨ab, 0, none⟩), .int .u64 150] 89)) ((Below.refl _ _).alloc (Nat.le_refl _) _))
  have hBx0 := hBx.alloc (.cells #[.pointer (some ⟨4, 62, none⟩), .pointer (some ⟨ab, 0, none⟩), .int .u64 150] 89)
  have hAb0 := cell_below (W' := W.alloc (.cells #[.pointer (some ⟨4, 62, none⟩), .pointer (some ⟨ab, 0, none⟩), .int .u64 150] 89)) hAb ((Below.refl _ _).alloc (Nat.le_refl _) _)
  have hV := Box.new W 89 #[.pointer (some ⟨4, 62, none⟩), .pointer (some ⟨ab, 0, none⟩), .int .u64 150]
  clear hAb hch
  go_enter Tryd.func44, Tryd.ntmps44
  go_wp2
  generalize W.alloc (.cells #[.pointer (some ⟨4, 62, none⟩), .pointer (some ⟨ab, 0, none⟩), .int .u64 150] 89) = W1 at hg hc0 hBx0 hAb0 hV ⊢
  have v0 := hV.get 0 _ rfl
  have v1 := hV.get 1 _ rfl
  have v2 := hV.get 2 _ rfl
  clear hBx hV
  go_loopw [0] (fun E' wl => wl = W1 ∧ ∃ l' t', Chain W1 E' l' t' ∧ diskV l = diskV l') (fun E' _ => chainLen W1 E')
  case atStart => exact ⟨rfl, l, t, hc0.out, rfl⟩
  case round =>
    obtain ⟨rfl, l', t', hc', hd⟩ := hrel
    replace hd := Lib.hid hd
    cases hc' with
    | base n =>
      have tO := typeOf25
      have a0 := assign25_36
      have n1 := noAs25
      have n2 := noUnwrap25
      have n3 := noUnwraps25
      go_wp2
      rw [← HR.out, hd.out]
      exact ⟨rfl, hg⟩
    | diskEnd s b o c0 c1 =>
      have tO := typeOf36
      have a0 := assign36_36
      have vE := valueOfE36 ⟨b, o, none⟩ wr
      have el := elemV62 ⟨ab, 0, none⟩ ⟨B, 0, none⟩ wr hAb0
      have st := set36 ⟨B, 0, none⟩ ⟨wr.heap.size, 0, none⟩ ⟨b, o, none⟩ old (wr.alloc (.cells #[.pointer (some ⟨b, o, none⟩)] 36)) (by simp) ((hBx0.alloc _).get 0 _ rfl) ((hBx0.alloc _).frozen 0)
      go_wp2
      rw [← HR.out, hd.out]
      exact found_mk (grown_none hg _) hBx0
    | disk s b o E1 l1 _ c0 c1 hc1 =>
      have tO := typeOf36
      have a0 := assign36_36
      have vE := valueOfE36 ⟨b, o, none⟩ wr
      have el := elemV62 ⟨ab, 0, none⟩ ⟨B, 0, none⟩ wr hAb0
      have st := set36 ⟨B, 0, none⟩ ⟨wr.heap.size, 0, none⟩ ⟨b, o, none⟩ old (wr.alloc (.cells #[.pointer (some ⟨b, o, none⟩)] 36)) (by simp) ((hBx0.alloc _).get 0 _ rfl) ((hBx0.alloc _).frozen 0)
      clear hc1
      go_wp2
      rw [← HR.out, hd.out]
      exact found_mk (grown_none hg _) hBx0
    | fault op path b o E1 l1 _ c0 c1 c2 hc1 =>
      have tO := typeOf64
      have a0 := assign64_36
      have n1 := noAs64
      have n2 := hasUnwrap64
      have mU := mUnwrap64
      have hlen := Lib.hid (chainLen_eq hc1)
      have hlen0 := Lib.hid (chainLen_eq (Chain.fault op path b o E1 l1 _ c0 c1 c2 hc1))
      have hne : ∃ u v, E1 = .iface u v := by cases hc1 <;> exact ⟨_, _, rfl⟩
      obtain ⟨u1, v1, rfl⟩ := hne
      have HC := Lib.hid hc1
      clear hc1
      go_wp2
      go_roundw
      case rel => exact ⟨trivial, l1, _, HC.out, hd.out⟩
      case measure =>
        show chainLen wr (.iface u1 v1) < _
        rw [hlen.out, hlen0.out]; simp
end Go.Proofs.YtopfkbpjfcdjnaaDoor
