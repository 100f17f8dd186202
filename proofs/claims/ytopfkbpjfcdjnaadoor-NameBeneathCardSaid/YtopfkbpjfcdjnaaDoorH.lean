/- The contracts of name's errors: At, Wrap, Code, Sector, Op, Fatal. -/
import Derived.Test.YtopfkbpjfcdjnaaDoorG
import Derived.BigQuiet
namespace Go.Proofs.YtopfkbpjfcdjnaaDoor
open Go.RowKit Go.Extern.Stop Go.Stop Go.Extern
/-- A plain answer; old blocks are as they were. -/
def Kept (W : World) (r : Array Value) (e : Ending) (w' : World) : Prop := e = .returned (.tuple r) ∧ W.grownBy w' none
def Kept1 (W : World) (r : Value) (e : Ending) (w' : World) : Prop := e = .returned r ∧ W.grownBy w' none
theorem grown_below {W W' : World} (h : Below W.heap.size W W') : W.grownBy W' none := ⟨h.os, h.tape, h.output, h.size, fun i hi _ => h.block i hi⟩
theorem below_grown {W W' : World} (h : W.grownBy W' none) : Below W.heap.size W W' := ⟨h.os, h.tape, h.output, h.size, fun i hi => h.block i hi (by simp)⟩
/-- What is done with a new block of one's own keeps what was there. -/
theorem grown_own {W w' : World} {o : Obj} (h : (W.alloc o).grownBy w' (some W.heap.size)) : W.grownBy w' none :=
  ⟨h.os, h.tape, h.output, by have := h.size; rw [World.size_alloc] at this; omega, fun i hi _ => (h.block i (by rw [World.size_alloc]; omega) (by simp; omega)).trans (Below.heap_alloc W o i hi)⟩
theorem firstDisk_cell {W : World} {E : Value} {l : List Lk} {t : Option Int} (h : Chain W E l t) {s : Int} {b o : Nat} (hf : firstDisk l = some (s, b, o)) : W.cell? ⟨b, o, none⟩ = some (.int .i64 s) := by
  induction h with
  | base n => simp [firstDisk] at hf
  | diskEnd s' b' o' h1 h2 => simp only [firstDisk, Option.some.injEq, Prod.mk.injEq] at hf; obtain ⟨rfl, rfl, rfl⟩ := hf; exact h1
  | disk s' b' o' E l t h1 h2 h3 ih => simp only [firstDisk, Option.some.injEq, Prod.mk.injEq] at hf; obtain ⟨rfl, rfl, rfl⟩ := hf; exact h1
  | fault op path b' o' E l t h1 h2 h3 h4 ih => exact ih hf
theorem firstFault_cell {W : World} {E : Value} {l : List Lk} {t : Option Int} (h : Chain W E l t) {op path : ByteArray} {b o : Nat} (hf : firstFault l = some (op, path, b, o)) : W.cell? ⟨b, o, none⟩ = some (.string op) ∧ W.cell? ⟨b, o + 1, none⟩ = some (.string path) := by
  induction h with
  | base n => simp [firstFault] at hf
  | diskEnd s' b' o' h1 h2 => simp [firstFault] at hf
  | disk s' b' o' E l t h1 h2 h3 ih => exact ih hf
  | fault op' path' b' o' E l t h1 h2 h3 h4 ih => simp only [firstFault, Option.some.injEq, Prod.mk.injEq] at hf; obtain ⟨rfl, rfl, rfl, rfl⟩ := hf; exact ⟨h1, h2⟩
theorem cell_own {W w' : World} {ob : Obj} {b o : Nat} {v : Value} (h : W.cell? ⟨b, o, none⟩ = some v) (hg : (W.alloc ob).grownBy w' (some W.heap.size)) : w'.cell? ⟨b, o, none⟩ = some v :=
  cell_below h (below_grown (grown_own hg))
set_option maxHeartbeats 1000000 in
theorem at_ok (s : Int) (W : World) : Calls Tryd.prog 13 #[.int .i64 s, .int .i64 0] W (fun e w' => e = .returned .nilIface ∧ w' = W) := by
  go_enter Tryd.func13, Tryd.ntmps13
  go_wp2
  go_ret
  exact ⟨rfl, rfl⟩
set_option maxHeartbeats 1000000 in
theorem at_err (s n : Int) (W : World) (hn : n ≠ 0) : Calls Tryd.prog 13 #[.int .i64 s, .int .i64 n] W (fun e w' => e = .returned (.iface 36 (.pointer (some ⟨W.heap.size, 0, none⟩))) ∧ w' = W.alloc (.cells #[.int .i64 s, .iface 25 (.int .i64 n)] 38)) := by
  have h1 : (n == 0) = false := by simpa using hn
  go_enter Tryd.func13, Tryd.ntmps13
  go_wp2
  go_ret
  exact ⟨rfl, rfl⟩
set_option maxHeartbeats 1000000 in
theorem wrap_nil (op path : ByteArray) (W : World) : Calls Tryd.prog 16 #[.string op, .string path, .nilIface] W (fun e w' => e = .returned .nilIface ∧ w' = W) := by
  go_enter Tryd.func16, Tryd.ntmps16
  go_wp2
  go_ret
  exact ⟨rfl, rfl⟩
set_option maxHeartbeats 1000000 in
theorem wrap_err (op path : ByteArray) (u : TypeId) (v : Value) (W : World) : Calls Tryd.prog 16 #[.string op, .string path, .iface u v] W (fun e w' => e = .returned (.iface 64 (.pointer (some ⟨W.heap.size, 0, none⟩))) ∧ w' = W.alloc (.cells #[.string op, .string path, .iface u v] 66)) := by
  go_enter Tryd.func16, Tryd.ntmps16
  go_wp2
  go_ret
  exact ⟨rfl, rfl⟩
/-- The number of a chain. -/
def codeOf (t : Option Int) : Int := t.getD 1
set_option maxHeartbeats 4000000 in
theorem code_any (E : Value) (l : List Lk) (t : Option Int) (W : World) (hch : Chain W E l t) (hG : ErrT W) :
    Calls Tryd.prog 15 #[E] W (Kept1 W (.int .i64 (codeOf t))) := by
  have hne : ∃ u v, E = .iface u v := by cases hch <;> exact ⟨_, _, rfl⟩
  obtain ⟨u1, v1, rfl⟩ := hne
  have hcall := Lib.hid (as25_any _ l t W.heap.size (.int .i64 0) (W.alloc (.cells #[.int .i64 0] 25)) (hch.keep ((Below.refl _ _).alloc (Nat.le_refl _) _)) (Box.new W 25 _) (hG.below ((Below.refl _ _).alloc (Nat.le_refl _) _)))
  have hg := Lib.hid (grown_alloc W (.cells #[.int .i64 0] 25) none)
  clear hch hG
  rcases t with _ | n
  · go_enter Tryd.func15, Tryd.ntmps15
    go_wp2_with (go_at_call 32; refine hcall.out.mono ?_; rintro e w' ⟨rfl, hr⟩)
    go_ret
    exact ⟨rfl, grown_trans hg.out hr⟩
  · go_enter Tryd.func15, Tryd.ntmps15
    go_wp2_with (go_at_call 32; refine hcall.out.mono ?_; rintro e w' ⟨rfl, hr1, hr2⟩; have hr3 := hr1.get 0 _ rfl)
    go_ret
    exact ⟨rfl, grown_own hr2⟩
set_option maxHeartbeats 1000000 in
theorem code_nil (W : World) : Calls Tryd.prog 15 #[.nilIface] W (Kept1 W (.int .i64 0)) := by
  go_enter Tryd.func15, Tryd.ntmps15
  go_wp2
  go_ret
  exact ⟨rfl, Below.refl _ W |> grown_below⟩
/-- What Sector tells. -/
def sectorOf (l : List Lk) : Int × Bool := match firstDisk l with | some x => (x.1, true) | none => (0, false)
set_option maxHeartbeats 4000000 in
theorem sector_any (E : Value) (l : List Lk) (t : Option Int) (W : World) (hch : Chain W E l t) (hG : ErrT W) :
    Calls Tryd.prog 14 #[E] W (Kept W #[.int .i64 (sectorOf l).1, .bool (sectorOf l).2]) := by
  have hne : ∃ u v, E = .iface u v := by cases hch <;> exact ⟨_, _, rfl⟩
  have hcall := Lib.hid (as36_any _ l t W.heap.size (.pointer none) (W.alloc (.cells #[.pointer none] 36)) (hch.keep ((Below.refl _ _).alloc (Nat.le_refl _) _)) (Box.new W 36 _) (hG.below ((Below.refl _ _).alloc (Nat.le_refl _) _)))
  have hg := Lib.hid (grown_alloc W (.cells #[.pointer none] 36) none)
  have hfc := Lib.hid (fun (s : Int) (b o : Nat) (h : firstDisk l = some (s, b, o)) => firstDisk_cell hch h)
  clear hch hG
  obtain ⟨u1, v1, rfl⟩ := hne
  unfold sectorOf diskV at *
  rcases hf : firstDisk l with _ | ⟨s, b, o⟩
  · rw [hf] at hcall
    go_enter Tryd.func14, Tryd.ntmps14
    go_wp2_with (go_at_call 32; refine hcall.out.mono ?_; rintro e w' ⟨rfl, hr⟩)
    go_ret2
    exact ⟨rfl, grown_trans hg.out hr⟩
  · rw [hf] at hcall
    have hcell := Lib.hid (hfc.out s b o hf)
    clear hfc
    go_enter Tryd.func14, Tryd.ntmps14
    go_wp2_with (go_at_call 32; refine hcall.out.mono ?_; rintro e w' ⟨rfl, hr1, hr2⟩; have hr3 := hr1.get 0 _ rfl; have hr4 := cell_own hcell.out hr2; simp only at hr3)
    go_ret2
    exact ⟨rfl, grown_own hr2⟩
set_option maxHeartbeats 1000000 in
theorem sector_nil (W : World) : Calls Tryd.prog 14 #[.nilIface] W (Kept W #[.int .i64 0, .bool false]) := by
  have hg := Lib.hid (grown_alloc W (.cells #[.pointer none] 36) none)
  go_enter Tryd.func14, Tryd.ntmps14
  go_wp2
  go_ret2
  exact ⟨rfl, hg.out⟩
/-- Is it a number behind which nothing can be changed? -/
def fatalOf (t : Option Int) : Bool := (t == some 8) || ((t == some 80) || (t == some 9))
set_option maxRecDepth 100000 in
set_option maxHeartbeats 4000000 in
theorem fatal_any (E : Value) (l : List Lk) (t : Option Int) (W : World) (hch : Chain W E l t) :
    Calls Tryd.prog 18 #[E] W (fun e w' => e = .returned (.bool (fatalOf t)) ∧ w' = W) := by
  have hne : ∃ u v, E = .iface u v := by cases hch <;> exact ⟨_, _, rfl⟩
  obtain ⟨f, hf⟩ : ∃ f : Int → Bool, f = fun n => t == some n := ⟨_, rfl⟩
  have hall := Lib.hid (fun n : Int => (by rw [hf]; exact is_any E l t n W hch : Calls Tryd.prog 19 #[E, .iface 25 (.int .i64 n)] W (IsRes W (f n))))
  have e8 : (t == some (8 : Int)) = f 8 := by rw [hf]
  have e80 : (t == some (80 : Int)) = f 80 := by rw [hf]
  have e9 : (t == some (9 : Int)) = f 9 := by rw [hf]
  clear hch hf
  obtain ⟨u1, v1, rfl⟩ := hne
  unfold fatalOf
  rw [e8, e80, e9]
  clear e8 e80 e9
  go_enter Tryd.func18, Tryd.ntmps18
  rcases hr1 : f 8 with _ | _
  · rcases hr2 : f 80 with _ | _
    · rcases hr3 : f 9 with _ | _
      · go_wp2_with (go_at_call 19; refine (hall.out _).mono ?_; rintro e w' ⟨rfl, rfl⟩)
        go_ret
        exact ⟨rfl, rfl⟩
      · go_wp2_with (go_at_call 19; refine (hall.out _).mono ?_; rintro e w' ⟨rfl, rfl⟩)
        go_ret
        exact ⟨rfl, rfl⟩
    · go_wp2_with (go_at_call 19; refine (hall.out _).mono ?_; rintro e w' ⟨rfl, rfl⟩)
      go_ret
      exact ⟨rfl, rfl⟩
  · go_wp2_with (go_at_call 19; refine (hall.out _).mono ?_; rintro e w' ⟨rfl, rfl⟩)
    go_ret
    exact ⟨rfl, rfl⟩
set_option maxHeartbeats 1000000 in
theorem fatal_nil (W : World) : Calls Tryd.prog 18 #[.nilIface] W (fun e w' => e = .returned (.bool false) ∧ w' = W) := by
  go_enter Tryd.func18, Tryd.ntmps18
  go_wp2
  go_ret
  exact ⟨rfl, rfl⟩
end Go.Proofs.YtopfkbpjfcdjnaaDoor
