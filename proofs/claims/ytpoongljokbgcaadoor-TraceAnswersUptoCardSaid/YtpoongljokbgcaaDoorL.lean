import Derived.Test.YtpoongljokbgcaaDoorK
import Derived.Test.YtpoongljokbgcaaDoorF
namespace Go.Proofs.YtpoongljokbgcaaDoor
open Go.RowKit
theorem trim_yes (c : UInt8) (r : List UInt8) : Lib.trimPrefix (c :: r) [c] = r := by simp [Lib.trimPrefix, Lib.hasPrefix]
theorem has_yes (c : UInt8) (r : List UInt8) : Lib.hasPrefix (c :: r) [c] = true := by simp [Lib.hasPrefix]
theorem trim_no (c d : UInt8) (r : List UInt8) (h : d ≠ c) : Lib.trimPrefix (d :: r) [c] = d :: r := by
  have h' : ¬ c = d := fun e => h e.symm
  simp [Lib.trimPrefix, Lib.hasPrefix, h']
theorem has_no (c d : UInt8) (r : List UInt8) (h : d ≠ c) : Lib.hasPrefix (d :: r) [c] = false := by
  have h' : ¬ c = d := fun e => h e.symm
  simp [Lib.hasPrefix, List.isPrefixOf, h']
theorem cutPrefix_S (l p : List UInt8) (w : World) :
    Calls Tryd.prog 73 #[.string (S l), .string ⟨p.toArray⟩] w fun e w' => e = .returned (.tuple #[.string (S (Lib.trimPrefix l p)), .bool (Lib.hasPrefix l p)]) ∧ w = w' :=
  (Tryd.strings_CutPrefix (S l) (S p) w).mono fun _ _ ⟨a, b⟩ => ⟨a, b.symm⟩
/-- What is left of a text behind an 'x', as bytes. -/
def BytesBool (o : Option (List UInt8)) (w : World) (e : Ending) (w' : World) : Prop :=
  match o with
  | some l => (∃ v, e = .returned (.tuple #[v, .bool true]) ∧ w'.ownsRow w.heap.size 5 1 v l.length (Lib.byteCells l)) ∧ Below w.heap.size w w'
  | none => (∃ v, e = .returned (.tuple #[v, .bool false]) ∧ w'.ownsRow w.heap.size 5 1 v 0 []) ∧ Below w.heap.size w w'
def Tr.unhexesX (l : List UInt8) : Option (List UInt8) := match l with
  | 120 :: r => Tr.unhexes r
  | _ => none
set_option maxRecDepth 100000 in
set_option maxHeartbeats 1000000 in
theorem unhexes_core (l : List UInt8) (s : List UInt8) (w : World) (h1 : Lib.trimPrefix s [120] = l) (h2 : Lib.hasPrefix s [120] = true) (hl : l.length ≤ 140737488355328) :
    Calls Tryd.prog 48 #[.string (S s)] w (BytesBool (Tr.unhexes l) w) := by
  obtain ⟨i0, hi0, hz0, hz1, hz2⟩ := info_parts infoByte
  replace h1 := Lib.hid h1
  replace h2 := Lib.hid h2
  go_enter Tryd.func48, Tryd.ntmps48
  go_wp2_with fail
  refine (cutPrefix_S s [120] _).mono ?_
  rw [h1.out, h2.out]
  rintro e w0 ⟨rfl, rfl⟩
  go_wp2_with fail
  go_loopw [4, 6] (fun r b wr => ∃ acc rest : List UInt8, r = .string (S rest) ∧ wr.ownsRow w.heap.size 5 1 b acc.length (Lib.byteCells acc) ∧ Below w.heap.size w wr ∧ acc.length + rest.length ≤ l.length ∧ Tr.unhexes l = (Tr.unhexes rest).map (acc ++ ·))
    (fun r _ _ => match r with | .string s => s.size | _ => 0)
  case atStart => exact ⟨[], l, rfl, World.ownsRow_nil _ _ _ _, Below.refl _ _, by simp, by simp⟩
  case round =>
    obtain ⟨acc, rest, rfl, hown, hW, hlen, hu⟩ := hrel
    have hsz := hW.size
    match rest with
    | [] =>
      replace hu := Lib.hid (show Tr.unhexes l = some acc by rw [hu]; simp [Tr.unhexes])
      go_wp2_with fail
      go_ret2
      rw [hu.out]
      exact ⟨⟨_, rfl, hown⟩, hW⟩
    | [c] =>
      replace hu := Lib.hid (show Tr.unhexes l = none by rw [hu]; simp [Tr.unhexes])
      go_wp2_with fail
      refine (unhex_short [c] _ (by simp)).mono ?_
      rintro e w0 ⟨⟨v, rfl⟩, nd, rfl⟩
      go_wp2_with fail
      go_ret2
      rw [hu.out]
      exact ⟨⟨_, rfl, World.ownsRow_nil _ _ _ _⟩, below_thenN hW nd⟩
    | a :: b :: r =>
      simp only [List.length_cons] at hlen
      cases hd : Tr.unh a b with
      | none =>
        replace hu := Lib.hid (show Tr.unhexes l = none by rw [hu]; simp [Tr.unhexes, hd])
        replace hd := Lib.hid hd
        go_wp2_with fail
        refine (unhex_none a b r _ (by omega) hd.out).mono ?_
        rintro e w0 ⟨⟨v, rfl⟩, nd, rfl⟩
        go_wp2_with fail
        go_ret2
        rw [hu.out]
        exact ⟨⟨_, rfl, World.ownsRow_nil _ _ _ _⟩, below_thenN hW nd⟩
      | some d =>
        replace hu := Lib.hid (show Tr.unhexes l = (Tr.unhexes r).map ((acc ++ [d]) ++ ·) by rw [hu]; simp [Tr.unhexes, hd, Function.comp_def])
        replace hd := Lib.hid hd
        go_wp2_with fail
        refine (unhex_some a b r _ (by omega) d hd.out).mono ?_
        rintro e w0 ⟨rfl, nd, rfl⟩
        go_wp2_with fail
        go_region_held3 (fun _ => True) (exact trivial)
          ((refine step_append_lies _ (by rfl) _ _ _ (by rfl) w.heap.size 5 i0 _ 1 1 Tryd.underlying28 hi0 hz0 hz1 hz2 rfl (by omega) _ acc.length (Lib.byteCells acc) (by rfl) (own_drew (own_drewN (hown.alloc _) nd)) ⟨wr.heap.size, 0, none⟩ 1 1 [.int .u8 d.toNat] (by rfl) (by rfl) (World.news_of_block (cs := #[.int .u8 d.toNat]) (t := 5) (fr := (0, 0)) (heap_alloc_new wr _)) (by simp [Value.oneCell']) (by omega) (by unfold maxLen; omega) (by omega) (by simp; omega) (wr.heap.size + 1) (by simp) ?_; intro gg cap w1 hown1 hgrow hat hlt))
        go_wp2_with fail
        go_roundw
        case rel => exact ⟨acc ++ [d], r, rfl, by simpa [Lib.byteCells] using hown1, below_pushN hW (Nat.le_refl _) hown hgrow, by simp; omega, hu.out⟩
        case measure => simp; omega
set_option maxRecDepth 100000 in
set_option maxHeartbeats 1000000 in
theorem unhexes_any (s : List UInt8) (w : World) (hl : s.length ≤ 140737488355328) :
    Calls Tryd.prog 48 #[.string (S s)] w (BytesBool (Tr.unhexesX s) w) := by
  have hno : (Lib.hasPrefix s [120] = false → Tr.unhexesX s = none → Calls Tryd.prog 48 #[.string (S s)] w (BytesBool (Tr.unhexesX s) w)) := by
    intro h2 h3
    replace h2 := Lib.hid h2
    rw [h3]
    clear h3
    go_enter Tryd.func48, Tryd.ntmps48
    go_wp2_with fail
    refine (cutPrefix_S s [120] _).mono ?_
    rw [h2.out]
    rintro e w0 ⟨rfl, rfl⟩
    go_wp2_with fail
    refine wp_loop_rounds 1 ?_
    rw [rounds_succ]
    go_wp2_with fail
    go_ret2
    exact ⟨⟨_, rfl, World.ownsRow_nil _ _ _ _⟩, Below.refl _ _⟩
  match s with
  | [] => exact hno (by rfl) rfl
  | c :: r =>
    by_cases h : c = 120
    · subst h
      exact unhexes_core r (120 :: r) w (trim_yes _ _) (has_yes _ _) (by simp at hl; omega)
    · exact hno (has_no 120 c r h) (by unfold Tr.unhexesX; split <;> simp_all)
end Go.Proofs.YtpoongljokbgcaaDoor
