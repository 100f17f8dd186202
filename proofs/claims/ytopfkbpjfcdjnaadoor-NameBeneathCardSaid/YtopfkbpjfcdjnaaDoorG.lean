/- errors.Is where the target is an api.Errno: is it the number at the chain's end? -/
import Derived.Test.YtopfkbpjfcdjnaaDoorF
import Derived.Lib.IfaceEq
namespace Go.Proofs.YtopfkbpjfcdjnaaDoor
open Go.RowKit Go.Extern.Stop Go.Stop Go.Extern
/-- A plain answer, with the world as it was. -/
def IsRes (W : World) (r : Bool) (e : Ending) (w' : World) : Prop := e = .returned (.bool r) ∧ w' = W
set_option maxRecDepth 1000000 in
set_option maxHeartbeats 4000000 in
theorem is_loop (E : Value) (l : List Lk) (t : Option Int) (n : Int) (W : World) (hch : Chain W E l t) :
    Calls Tryd.prog 34 #[E, .iface 25 (.int .i64 n), .bool true] W (IsRes W (t == some n)) := by
  obtain ⟨R, HR⟩ : ∃ R : Ending → World → Prop, IsRes W (t == some n) = R := ⟨_, rfl⟩
  rw [HR]
  replace HR := Lib.hid HR
  replace hch := Lib.hid hch
  go_enter Tryd.func34, Tryd.ntmps34
  go_wp2
  go_loopw [0] (fun E' wl => wl = W ∧ ∃ l' t', Chain W E' l' t' ∧ (t == some n) = (t' == some n)) (fun E' _ => chainLen W E')
  case atStart => exact ⟨rfl, l, t, hch.out, rfl⟩
  case round =>
    obtain ⟨rfl, l', t', hc', hd⟩ := hrel
    replace hd := Lib.hid hd
    cases hc' with
    | base m =>
      have heq := fun w => Lib.run_eql_iface_int (P := Tryd.prog) w (k := .i64) m n Tryd.underlying31 comp25 Tryd.underlying25
      have n0 := noIs25
      have n1 := noUnwrap25
      have n2 := noUnwraps25
      rcases hb : (m == n) with _ | _
      · rw [hb] at heq
        go_wp2
        rw [← HR.out]
        refine ⟨?_, rfl⟩
        rw [hd.out]
        have : ((some m : Option Int) == some n) = false := by simpa using hb
        rw [this]; rfl
      · rw [hb] at heq
        go_wp2
        rw [← HR.out]
        refine ⟨?_, rfl⟩
        rw [hd.out]
        have : ((some m : Option Int) == some n) = true := by simpa using hb
        rw [this]; rfl
    | diskEnd s b o c0 c1 =>
      have hty := run_eql_iface_types (P := Tryd.prog) 36 25 (.pointer (some ⟨b, o, none⟩)) (.int .i64 n) Tryd.underlying31 (by decide)
      have n0 := noIs36
      have n2 := hasUnwrap36
      have mU := mUnwrap36
      go_wp2
      rw [← HR.out]
      refine ⟨?_, rfl⟩
      rw [hd.out]; rfl
    | disk s b o E1 l1 _ c0 c1 hc1 =>
      have hty := run_eql_iface_types (P := Tryd.prog) 36 25 (.pointer (some ⟨b, o, none⟩)) (.int .i64 n) Tryd.underlying31 (by decide)
      have n0 := noIs36
      have n2 := hasUnwrap36
      have mU := mUnwrap36
      have hlen := Lib.hid (chainLen_eq hc1)
      have hlen0 := Lib.hid (chainLen_eq (Chain.disk s b o E1 l1 _ c0 c1 hc1))
      have hne : ∃ u v, E1 = .iface u v := by cases hc1 <;> exact ⟨_, _, rfl⟩
      obtain ⟨u1, v1, rfl⟩ := hne
      have HC := Lib.hid hc1
      clear hc1
      go_wp2
      go_roundw
      case rel => exact ⟨trivial, l1, _, HC.out, hd.out⟩
      case measure =>
        show chainLen wr (.iface u1 v1) < _
        rw [hlen.out, hlen0.out]; simp
    | fault op path b o E1 l1 _ c0 c1 c2 hc1 =>
      have hty := run_eql_iface_types (P := Tryd.prog) 64 25 (.pointer (some ⟨b, o, none⟩)) (.int .i64 n) Tryd.underlying31 (by decide)
      have n0 := noIs64
      have n2 := hasUnwrap64
      have mU := mUnwrap64
      have hlen := Lib.hid (chainLen_eq hc1)
      have hlen0 := Lib.hid (chainLen_eq (Chain.fault op path b o E1 l1 _ c0 c1 c2 hc1))
      have hne : ∃ u v, E1 = .iface u v := by cases hc1 <;> exact ⟨_, _, rfl⟩
      obtain ⟨u1, v1, rfl⟩ := hne
      have HC := Lib.hid hc1
      clear hc1
      go_wp2
      go_roundw
      case rel => exact ⟨trivial, l1, _, HC.out, hd.out⟩
      case measure =>
        show chainLen wr (.iface u1 v1) < _
        rw [hlen.out, hlen0.out]; simp
/-- What reflectlite's Comparable comes to. -/
def cmpX : Array Value → Sem Value := ReflectliteType.method fun t => do Rtype.noPackHeld "Comparable" t; pure (.bool (← typeInfo t).comparable)
theorem cmpX25 (w : World) : (cmpX #[(.agg #[.pointer (some ⟨4, 25, none⟩)])]).run Tryd.prog w = .ok (.bool true) w := by kernel_rfl
set_option maxHeartbeats 4000000 in
theorem is_any (E : Value) (l : List Lk) (t : Option Int) (n : Int) (W : World) (hch : Chain W E l t) :
    Calls Tryd.prog 19 #[E, .iface 25 (.int .i64 n)] W (IsRes W (t == some n)) := by
  have h33 := @run_callFunc_extern Tryd.prog 33 _ ReflectliteType.typeOf Tryd.func33 (by kernel_rfl) (by kernel_rfl) (by kernel_rfl) (by kernel_rfl)
  have h97 := @run_callFunc_extern Tryd.prog 97 _ cmpX Tryd.func97 (by kernel_rfl) (by kernel_rfl) (by kernel_rfl) (by kernel_rfl)
  have tO := typeOf25
  have mC := mComparable
  have cp := cmpX25
  have hne : ∃ u v, E = .iface u v := by cases hch <;> exact ⟨_, _, rfl⟩
  obtain ⟨u1, v1, rfl⟩ := hne
  have hcall := Lib.hid (is_loop _ l t n W hch)
  clear hch
  generalize (t == some n) = r at hcall ⊢
  go_enter Tryd.func19, Tryd.ntmps19
  go_wp2_with (go_at_call 34; refine hcall.out.mono ?_; rintro e w' ⟨rfl, rfl⟩)
  go_ret
  exact ⟨rfl, rfl⟩
end Go.Proofs.YtopfkbpjfcdjnaaDoor
