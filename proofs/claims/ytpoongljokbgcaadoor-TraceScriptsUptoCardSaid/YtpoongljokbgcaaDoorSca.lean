import Derived.Test.YtpoongljokbgcaaDoorCards
import Derived.Test.YtpoongljokbgcaaDoorTie
import Derived.WalkKit
import Derived.ProofKit
import Derived.OpenShut
import Derived.Carry
import Derived.Deep.DeepHandedRow
import Derived.Lib.LaidTab
import Derived.Test.YtpoongljokbgcaaDoorShelf
import Derived.Lib.AppendStr
import Derived.WalkSpells
import Derived.WalkLawsBesides
import Derived.Lib.Hide
import Derived.IntWalk
import Derived.Laws.BitsAllLaws
import Derived.Deep.QuietTactic
import Derived.BigQuiet
import Derived.Outline
import Derived.LoopTactic
import Derived.Laws.BytesArg
import Derived.Deep.AppendLies
namespace Go.Proofs.YtpoongljokbgcaaDoor
open Go.ChangeShapes Go.WideShapes Go.ChangeAt Go.RowKit
section
variable {H : Type} {enc : TypeId × Value → H} {P : Program}
/-- What is read as data is read as the same behind a call that leaves old blocks as they are. -/
theorem below_trodAll (hl : laidOutB P = true) {W W' : World} (hn : Below W.heap.size W W') :
    ∀ (ts : List TypeId) (vs : List Value) (ds : List (DataW H)) (ps : List MemPlace),
    (∀ t ∈ ts, P.readableRec t = true ∧ t < P.types.size) → (∀ x ∈ ps, x.block < W.heap.size) →
    DataW.TrodAll enc P W 0 (fun _ => true) true ts vs ds ps → DataW.TrodAll enc P W' 0 (fun b => decide (b < W.heap.size)) true ts vs ds ps := by
  intro ts
  induction ts with
  | nil =>
    intro vs ds ps _ _ h
    obtain ⟨rfl, rfl, rfl⟩ := trodAll_nil h
    exact trodAll_mk0
  | cons t ts ih =>
    intro vs ds ps ht hp h
    obtain ⟨v0, vs0, d0, ds0, p0, q0, rfl, rfl, rfl, h0, r0⟩ := trodAll_cons h
    exact trodAll_cons_mk (Below.trod hl (ht t (List.mem_cons_self ..)).1 (ht t (List.mem_cons_self ..)).2 h0 hn fun x hx => hp x (List.mem_append_left _ hx))
      (ih _ _ _ (fun u hu => ht u (List.mem_cons_of_mem _ hu)) (fun x hx => hp x (List.mem_append_right _ hx)) r0)
/-- A law that returns true and makes nothing but new blocks does what its row says. -/
theorem contract_true (hl : laidOutB P = true) {k : FuncId} {f : Func} {s : ChangeSpec} (hv : s.vars = []) (hr : f.resultTypes = #[4]) (h4 : P.underlying 4 = some .bool)
    (hp : ∀ t ∈ f.params.toList, P.readableRec t = true ∧ t < P.types.size) {W : World} {args : Array Value} {ds gs : List (DataW H)} {before : List MemPlace}
    (hfn : s.fn H ds = { results := [.lit (.bool true)], args := ds }) (hW : DataW.Whole enc P f.params.toList s.vars false W args.toList ds gs before)
    (hc : Calls P k args W fun e W' => e = .returned (.bool true) ∧ Below W.heap.size W W') :
    Calls P k args W fun e W' => ∃ v, e = .returned v ∧ s.post enc P f false true false false W args v W' := by
  have hW' := hW
  obtain ⟨p, q, hA, hV, rfl, hfz, hnd⟩ := hW
  rw [hv] at hV
  obtain ⟨rfl, rfl⟩ := trodVars_none hV
  have hlt : ∀ x ∈ p ++ [], x.block < W.heap.size := fun x hx => by simpa using hW'.lt x hx
  refine hc.mono fun e W' ⟨he, hb⟩ => ?_
  subst he
  refine ⟨_, rfl, ds, [], p ++ [], [], p, [], hW', ?_, ?_, ?_, hb.frame _, fun h => by cases h⟩
  · rw [hr, List.append_nil, hfn]
    exact trodAll_cons_mk (shut_bool h4 true) trodAll_mk0
  · rw [List.append_nil, hfn]
    exact below_trodAll hl hb _ _ _ _ hp (fun x hx => hlt x (List.mem_append_left _ hx)) hA
  · rw [List.append_nil, hfn, hv]
    exact rfl
end
end Go.Proofs.YtpoongljokbgcaaDoor
/- strings.Builder at this translation: copyCheck, WriteByte and WriteString at a builder that the call itself made. -/
namespace Go.Proofs.YtpoongljokbgcaaDoor
open Go.RowKit
theorem sizeBuilder : (Tryd.prog.info? 69).map (·.size) = some 2 := by kernel_rfl
theorem liesBuilder : liesAt Tryd.prog Tryd.prog.depth 69 (2 / Tryd.prog.cellsOf 69) 0 69 1 = true := by kernel_rfl
theorem infoByte : (Tryd.prog.info? 5).map (fun i => (i.zero, i.size, i.bytes)) = some (some (.int .u8 0), 1, 1) := by kernel_rfl
set_option maxHeartbeats 1000000 in
set_option maxRecDepth 100000 in
theorem copyCheck_used (b : Nat) (w : World) (h0 : w.cell? ⟨b, 0, none⟩ = some (.pointer (some ⟨b, 0, none⟩))) :
    Calls Tryd.prog 70 #[.pointer (some ⟨b, 0, none⟩)] w fun e w' => e = .returned (.tuple #[]) ∧ w' = w := by
  obtain ⟨j, hj, _⟩ := Option.map_eq_some_iff.1 sizeBuilder
  go_enter Tryd.func70, Tryd.ntmps70
  go_wp2
  rw [Lib.run_neq_ptr_same w _ Tryd.underlying67 hj]
  go_wp2
  go_end0
  exact ⟨rfl, rfl⟩
set_option maxHeartbeats 1000000 in
set_option maxRecDepth 100000 in
theorem copyCheck_fresh (b : Nat) (w : World) (h0 : w.cell? ⟨b, 0, none⟩ = some (.pointer none)) (hsh : w.shape? b = some (69, 2)) (hfz : w.frozen? ⟨b, 0, none⟩ = false) :
    Calls Tryd.prog 70 #[.pointer (some ⟨b, 0, none⟩)] w fun e w' => e = .returned (.tuple #[]) ∧ w' = w.setCell ⟨b, 0, none⟩ (.pointer (some ⟨b, 0, none⟩)) := by
  obtain ⟨j, hj, hjs⟩ := Option.map_eq_some_iff.1 sizeBuilder
  go_enter Tryd.func70, Tryd.ntmps70
  go_wp2
  rw [Lib.run_to_unsafe w ⟨b, 0, none⟩ Tryd.underlying67 Tryd.underlying111 hj (by rw [hjs]; decide) hsh (Nat.zero_lt_succ 1)]
  simp only [Result.andThen]
  rw [Oper.upon_value]
  go_wp2
  rw [run_callFunc_extern Tryd.func79 (by kernel_rfl) (by kernel_rfl) (by kernel_rfl) (e := Extern.AbiNoEscape.same) (by kernel_rfl)]
  rw [Lib.run_noEscape]
  simp only [Result.andThen]
  rw [Oper.upon_value]
  go_wp2
  rw [Lib.run_from_unsafe w ⟨b, 0, none⟩ Tryd.underlying111 Tryd.underlying67 hj hsh liesBuilder]
  simp only [Result.andThen]
  rw [Oper.upon_value]
  go_wp2
  go_end0
  exact ⟨rfl, rfl⟩
theorem copyCheck_any (B b : Nat) (bs : List Value) (w : World) (h : Lib.IsBuilder 69 5 B b bs w) :
    Calls Tryd.prog 70 #[.pointer (some ⟨b, 0, none⟩)] w fun e w' => e = .returned (.tuple #[]) ∧ (Lib.BuilderAt 69 5 B b (.pointer (some ⟨b, 0, none⟩)) bs w' ∧ Below B w w') := by
  rcases h with h | h
  · refine (copyCheck_fresh b w h.cell0 h.shape h.frozen0).mono ?_
    rintro e w' ⟨rfl, rfl⟩
    exact ⟨rfl, h.used _, (Below.refl B w).setCell (p := ⟨b, 0, none⟩) h.1 _⟩
  · refine (copyCheck_used b w h.cell0).mono ?_
    rintro e w' ⟨rfl, rfl⟩
    exact ⟨rfl, h, Below.refl B _⟩
set_option maxHeartbeats 2000000 in
set_option maxRecDepth 100000 in
theorem writeByte_any (B b : Nat) (bs : List Value) (c : Int) (w : World) (h : Lib.IsBuilder 69 5 B b bs w) (hlen : bs.length + 1 ≤ 140737488355328) (hBw : B ≤ w.heap.size) :
    Calls Tryd.prog 41 #[.pointer (some ⟨b, 0, none⟩), .int .u8 c] w fun e w' => e = .returned .nilIface ∧ (Lib.BuilderAt 69 5 B b (.pointer (some ⟨b, 0, none⟩)) (bs ++ [.int .u8 c]) w' ∧ Below B w w') := by
  obtain ⟨i0, hi, hz0, hz1, hz2⟩ := info_parts infoByte
  go_enter Tryd.func41, Tryd.ntmps41
  go_wp2_with (go_at_call 70; refine (copyCheck_any B b bs _ h).mono ?_)
  rintro e w1 ⟨rfl, h1, hb1⟩
  obtain ⟨hB, v, hbk, hown, hne⟩ := h1
  have c0 : w1.cell? ⟨b, 0, none⟩ = some (.pointer (some ⟨b, 0, none⟩)) := by rw [Lib.cell_of_heap hbk]; rfl
  have c1 : w1.cell? ⟨b, 1, none⟩ = some v := by rw [Lib.cell_of_heap hbk]; rfl
  go_wp2_with (at_builtin; refine wpList_append_own _ rfl _ _ 28 rfl B 5 i0 (.int .u8 0) 1 1 Tryd.underlying28 hi hz0 hz1 hz2 rfl (by decide) _ _ _ rfl (hown.alloc _) ⟨w1.heap.size, 0, none⟩ 1 1 [.int .u8 c] rfl rfl ?c1 ?c2 ?c3 ?c4 ?c5 ?_)
  case c1 =>
    intro j u hj
    match j, hj with
    | 0, hj => simp at hj; subst hj; simp [Addr.add]
  case c2 => intro u hu; simp at hu; subst hu; rfl
  case c3 => unfold maxLen; omega
  case c4 => omega
  case c5 => have := hb1.size; simp; omega
  intro v' w2 hown' hgrow _
  have hlt : b < w1.heap.size := by
    rcases Nat.lt_or_ge b w1.heap.size with h' | h'
    · exact h'
    · simp [Array.getElem?_eq_none h'] at hbk
  have hb2 : w2.heap[b]? = some (.cells #[.pointer (some ⟨b, 0, none⟩), v] 69 (0, 0)) := by
    rw [hgrow.block b (by simp; omega) (fun e => hne e.symm), Lib.alloc_old w1 _ b hlt]
    exact hbk
  have d0 : w2.cell? ⟨b, 0, none⟩ = some (.pointer (some ⟨b, 0, none⟩)) := by rw [Lib.cell_of_heap hb2]; rfl
  have d1 : w2.cell? ⟨b, 1, none⟩ = some v := by rw [Lib.cell_of_heap hb2]; rfl
  have f1 : w2.frozen? ⟨b, 1, none⟩ = false := Lib.frozen_of_heap hb2 1
  obtain ⟨g, cap, rfl⟩ : ∃ g cap, v' = .slice (some ⟨g, 0, none⟩) (bs.length + 1) cap := by
    rcases hown'.2 with ⟨_, h0⟩ | ⟨g, cap, cur, hv, _⟩
    · omega
    · exact ⟨g, cap, hv⟩
  go_wp2
  go_ret
  refine ⟨rfl, ?_, ?_⟩
  · exact Lib.BuilderAt.put (T := 69) (e := 5) hB hb2 (bs' := bs ++ [.int .u8 c]) (by simpa using hown') (by decide)
  · exact ((hb1.alloc (by have := hb1.size; omega) _).grown hgrow (by have := hb1.size; simp; omega) (fun k hk => (hown.lt k hk).1)).setCell (p := ⟨b, 1, none⟩) hB _
set_option maxHeartbeats 2000000 in
set_option maxRecDepth 100000 in
theorem writeString_any (B b : Nat) (bs : List Value) (s : ByteArray) (w : World) (h : Lib.IsBuilder 69 5 B b bs w) (hlen : bs.length + s.size ≤ 140737488355328) (hBw : B ≤ w.heap.size) :
    Calls Tryd.prog 39 #[.pointer (some ⟨b, 0, none⟩), .string s] w fun e w' => e = .returned (.tuple #[.int .i64 s.size, .nilIface]) ∧ (Lib.BuilderAt 69 5 B b (.pointer (some ⟨b, 0, none⟩)) (bs ++ Lib.strCells s) w' ∧ Below B w w') := by
  obtain ⟨i0, hi, hz0, hz1, hz2⟩ := info_parts infoByte
  go_enter Tryd.func39, Tryd.ntmps39
  go_wp2_with (go_at_call 70; refine (copyCheck_any B b bs _ h).mono ?_)
  rintro e w1 ⟨rfl, h1, hb1⟩
  obtain ⟨hB, v, hbk, hown, hne⟩ := h1
  have c0 : w1.cell? ⟨b, 0, none⟩ = some (.pointer (some ⟨b, 0, none⟩)) := by rw [Lib.cell_of_heap hbk]; rfl
  have c1 : w1.cell? ⟨b, 1, none⟩ = some v := by rw [Lib.cell_of_heap hbk]; rfl
  go_wp2_with (at_builtin; refine Lib.wpList_append_own_string _ rfl _ _ 28 9 rfl B 5 i0 Tryd.underlying28 Tryd.underlying9 hi hz0 hz1 hz2 _ _ _ rfl hown s rfl ?c3 ?c4 ?c5 ?_)
  case c3 => unfold maxLen; omega
  case c4 => omega
  case c5 => have := hb1.size; omega
  intro v' w2 hown' hgrow _
  have hlt : b < w1.heap.size := by
    rcases Nat.lt_or_ge b w1.heap.size with h' | h'
    · exact h'
    · simp [Array.getElem?_eq_none h'] at hbk
  have hb2 : w2.heap[b]? = some (.cells #[.pointer (some ⟨b, 0, none⟩), v] 69 (0, 0)) := by
    rw [hgrow.block b hlt (fun e => hne e.symm)]
    exact hbk
  have d0 : w2.cell? ⟨b, 0, none⟩ = some (.pointer (some ⟨b, 0, none⟩)) := by rw [Lib.cell_of_heap hb2]; rfl
  have d1 : w2.cell? ⟨b, 1, none⟩ = some v := by rw [Lib.cell_of_heap hb2]; rfl
  have f1 : w2.frozen? ⟨b, 1, none⟩ = false := Lib.frozen_of_heap hb2 1
  obtain ⟨ao, n', cap, rfl⟩ : ∃ ao n' cap, v' = .slice ao n' cap := by
    rcases hown'.2 with ⟨hv, _⟩ | ⟨g, cap, cur, hv, _⟩
    · exact ⟨_, _, _, hv⟩
    · exact ⟨_, _, _, hv⟩
  go_wp2
  go_ret2
  refine ⟨rfl, ?_, ?_⟩
  · exact Lib.BuilderAt.put (T := 69) (e := 5) hB hb2 (bs' := bs ++ Lib.strCells s) (by simpa [Lib.strCells_length] using hown') (by decide)
  · exact (hb1.grown hgrow (by have := hb1.size; omega) (fun k hk => (hown.lt k hk).1)).setCell (p := ⟨b, 1, none⟩) hB _
end Go.Proofs.YtpoongljokbgcaaDoor
/- Plain words for the trace layer: a byte's two digits, a text as a word, and their like, as Lean functions on lists of bytes. -/
namespace Go.Proofs.YtpoongljokbgcaaDoor.Tr
def dgs : List UInt8 := [48, 49, 50, 51, 52, 53, 54, 55, 56, 57, 97, 98, 99, 100, 101, 102]
def dg (n : Nat) : UInt8 := dgs.getD n 0
def hexB (c : UInt8) : List UInt8 := [dg (c.toNat / 16), dg (c.toNat % 16)]
def bare (c : UInt8) : Bool := !(decide (c.toNat < 33) || decide (126 < c.toNat) || c == 37 || c == 58)
def quo1 (c : UInt8) : List UInt8 := if bare c then [c] else 37 :: hexB c
def quo (l : List UInt8) : List UInt8 := if l = [] then [37] else l.flatMap quo1
/-- a digit's value; 16: it is none -/
def nib (c : UInt8) : Nat := dgs.idxOf c
def unh (a b : UInt8) : Option UInt8 := if nib a < 16 ∧ nib b < 16 then some (UInt8.ofNat (16 * nib a + nib b)) else none
/-- the text of a word, as far as it can be read, and whether all of it could -/
def uq : List UInt8 → List UInt8 × Bool
  | [] => ([], true)
  | c :: r =>
    if c = 37 then
      match r with
      | a :: b :: r' => match unh a b with
        | some d => (d :: (uq r').1, (uq r').2)
        | none => ([], false)
      | _ => ([], false)
    else (c :: (uq r).1, (uq r).2)
def unq (s : List UInt8) : Option (List UInt8) := if quo (uq s).1 = s then some (uq s).1 else none
theorem uq_nil : uq [] = ([], true) := by rw [uq]
theorem uq_bare (c : UInt8) (r : List UInt8) (h : c ≠ 37) : uq (c :: r) = (c :: (uq r).1, (uq r).2) := by rw [uq.eq_def]; simp only [if_neg h]
theorem uq_some (a b d : UInt8) (r : List UInt8) (h : unh a b = some d) : uq (37 :: a :: b :: r) = (d :: (uq r).1, (uq r).2) := by rw [uq.eq_def]; simp only [if_true, h]
theorem uq_none (a b : UInt8) (r : List UInt8) (h : unh a b = none) : uq (37 :: a :: b :: r) = ([], false) := by rw [uq.eq_def]; simp only [if_true, h]
theorem uq_short (r : List UInt8) (h : r.length < 2) : uq (37 :: r) = ([], false) := by
  match r, h with
  | [], _ => rw [uq.eq_def]; simp only [if_true]
  | [_], _ => rw [uq.eq_def]; simp only [if_true]
theorem nib_dg : ∀ n, n < 16 → nib (dg n) = n := by decide
theorem unh_hexB (c : UInt8) : unh (dg (c.toNat / 16)) (dg (c.toNat % 16)) = some c := by
  have h : c.toNat < 256 := c.toNat_lt
  unfold unh
  rw [nib_dg _ (by omega), nib_dg _ (by omega), if_pos (by omega)]
  congr 1
  rw [show 16 * (c.toNat / 16) + c.toNat % 16 = c.toNat from by omega]
  simp
theorem bare_37 (c : UInt8) (h : bare c = true) : c ≠ 37 := by
  intro e; subst e; revert h; decide
theorem uq_quo1 (c : UInt8) (r : List UInt8) : uq (quo1 c ++ r) = (c :: (uq r).1, (uq r).2) := by
  unfold quo1
  split
  · rename_i h; exact uq_bare c r (bare_37 c h)
  · exact uq_some _ _ c r (unh_hexB c)
theorem uq_flat (l : List UInt8) : uq (l.flatMap quo1) = (l, true) := by
  induction l with
  | nil => exact uq_nil
  | cons c l ih => rw [List.flatMap_cons, uq_quo1, ih]
theorem unq_quo (l : List UInt8) : unq (quo l) = some l := by
  unfold unq
  by_cases h : l = []
  · subst h; decide
  · have : (uq (quo l)).1 = l := by unfold quo; rw [if_neg h, uq_flat]
    rw [this, if_pos rfl]
end Go.Proofs.YtpoongljokbgcaaDoor.Tr
/- Strings as lists of bytes: laws of the walk on 'S l'. -/
namespace Go.Proofs.YtpoongljokbgcaaDoor
open Go.RowKit
def S (l : List UInt8) : ByteArray := ⟨l.toArray⟩
theorem S_data (l : List UInt8) : (S l).data.toList = l := rfl
theorem S_of (s : ByteArray) : s = S s.data.toList := by cases s; rfl
@[go_sem, simp] theorem S_size (l : List UInt8) : (S l).size = l.length := by simp [S, ByteArray.size]
@[go_sem, simp] theorem S_toList (l : List UInt8) : (S l).toList = l := by
  rw [ByteArray.toList_eq]; rfl
@[go_sem, simp] theorem S_append (a b : List UInt8) : S a ++ S b = S (a ++ b) := by
  show (⟨a.toArray⟩ : ByteArray) ++ ⟨b.toArray⟩ = ⟨(a ++ b).toArray⟩
  rw [ByteArray.ext_iff]; simp
theorem S_extract (l : List UInt8) (i j : Nat) : (S l).extract i j = S ((l.take j).drop i) := by
  rw [ByteArray.ext_iff]
  show ((⟨l.toArray⟩ : ByteArray).extract i j).data = ((l.take j).drop i).toArray
  simp [List.drop_take]
section
variable {P : Program} (w : World)
def outOf (s : Sem Value) (P : Program) (w : World) : Result Value := s.run P w
@[go_sem ↓] theorem run_index_S (t : TypeId) (l : List UInt8) (k : IntKind) (i : Int) (h : P.underlying t = some .string) :
    (Instr.index t (.string (S l)) (.int k i)).run P w = if 0 ≤ i ∧ i < l.length then .ok (.int .u8 (l.getD i.toNat 0).toNat) w else outOf (Instr.index t (.string (S l)) (.int k i)) P w := by
  by_cases hi : 0 ≤ i ∧ i < l.length
  · rw [if_pos hi, run_index_string w t _ k i h, dif_pos (by simp; omega)]
    congr 3
    have hi : i.toNat < l.length := by omega
    simp only [List.getD_eq_getElem?_getD, List.getElem?_eq_getElem hi, Option.getD_some]
    rfl
  · rw [if_neg hi]; rfl
@[go_sem ↓] theorem run_slice_S_l (t : TypeId) (l : List UInt8) (k : IntKind) (i : Int) (h : P.underlying t = some .string) :
    (Instr.slice t (.string (S l)) (some (.int k i)) none none).run P w = if 0 ≤ i ∧ i ≤ l.length then .ok (.string (S (l.drop i.toNat))) w else outOf (Instr.slice t (.string (S l)) (some (.int k i)) none none) P w := by
  by_cases hi : 0 ≤ i ∧ i ≤ l.length
  · rw [if_pos hi, run_slice_string_l (P := P) w t (S l) h k i hi.1 (by simp; omega), S_extract]; simp
  · rw [if_neg hi]; rfl
@[go_sem ↓] theorem run_slice_S_h (t : TypeId) (l : List UInt8) (k : IntKind) (j : Int) (h : P.underlying t = some .string) :
    (Instr.slice t (.string (S l)) none (some (.int k j)) none).run P w = if 0 ≤ j ∧ j ≤ l.length then .ok (.string (S (l.take j.toNat))) w else outOf (Instr.slice t (.string (S l)) none (some (.int k j)) none) P w := by
  by_cases hi : 0 ≤ j ∧ j ≤ l.length
  · rw [if_pos hi, run_slice_string_h (P := P) w t (S l) h k j hi.1 (by simp; omega), S_extract]; simp
  · rw [if_neg hi]; rfl
@[go_sem ↓] theorem run_slice_S (t : TypeId) (l : List UInt8) (k k' : IntKind) (i j : Int) (h : P.underlying t = some .string) :
    (Instr.slice t (.string (S l)) (some (.int k i)) (some (.int k' j)) none).run P w = if 0 ≤ i ∧ i ≤ j ∧ j ≤ l.length then .ok (.string (S ((l.take j.toNat).drop i.toNat))) w else outOf (Instr.slice t (.string (S l)) (some (.int k i)) (some (.int k' j)) none) P w := by
  by_cases hi : 0 ≤ i ∧ i ≤ j ∧ j ≤ l.length
  · rw [if_pos hi, run_slice_string_if w t (S l) k k' i j h, if_pos (by simp; omega), if_pos (by omega), S_extract]
  · rw [if_neg hi]; rfl
@[go_sem ↓ high] theorem run_index_S0 (t : TypeId) (c : UInt8) (l : List UInt8) (k : IntKind) (h : P.underlying t = some .string) :
    (Instr.index t (.string (S (c :: l))) (.int k 0)).run P w = .ok (.int .u8 c.toNat) w := by
  rw [run_index_S w t _ k 0 h, if_pos ⟨by omega, by (first | (simp; done) | (simp; omega))⟩]; rfl
@[go_sem ↓ high] theorem run_index_S1 (t : TypeId) (b c : UInt8) (l : List UInt8) (k : IntKind) (h : P.underlying t = some .string) :
    (Instr.index t (.string (S (b :: c :: l))) (.int k 1)).run P w = .ok (.int .u8 c.toNat) w := by
  rw [run_index_S w t _ k 1 h, if_pos ⟨by omega, by (first | (simp; done) | (simp; omega))⟩]; rfl
@[go_sem ↓ high] theorem run_slice_S1 (t : TypeId) (c : UInt8) (l : List UInt8) (k : IntKind) (h : P.underlying t = some .string) :
    (Instr.slice t (.string (S (c :: l))) (some (.int k 1)) none none).run P w = .ok (.string (S l)) w := by
  rw [run_slice_S_l w t _ k 1 h, if_pos ⟨by omega, by (first | (simp; done) | (simp; omega))⟩]; rfl
@[go_sem ↓ high] theorem run_slice_S2 (t : TypeId) (b c : UInt8) (l : List UInt8) (k : IntKind) (h : P.underlying t = some .string) :
    (Instr.slice t (.string (S (b :: c :: l))) (some (.int k 2)) none none).run P w = .ok (.string (S l)) w := by
  rw [run_slice_S_l w t _ k 2 h, if_pos ⟨by omega, by (first | (simp; done) | (simp; omega))⟩]; rfl
@[go_sem ↓ high] theorem run_slice_S3 (t : TypeId) (a b c : UInt8) (l : List UInt8) (k : IntKind) (h : P.underlying t = some .string) :
    (Instr.slice t (.string (S (a :: b :: c :: l))) (some (.int k 3)) none none).run P w = .ok (.string (S l)) w := by
  rw [run_slice_S_l w t _ k 3 h, if_pos ⟨by omega, by (first | (simp; done) | (simp; omega))⟩]; rfl
end
theorem byte_ne (c d : UInt8) (h : c ≠ d) : ((c.toNat : Int) == (d.toNat : Int)) = false := by
  rw [beq_eq_false_iff_ne]; intro e; exact h (UInt8.toNat_inj.1 (by omega))
theorem byte_eq (c d : UInt8) (h : c = d) : ((c.toNat : Int) == (d.toNat : Int)) = true := by subst h; simp
theorem byte_bne (c d : UInt8) (h : c ≠ d) : ((c.toNat : Int) != (d.toNat : Int)) = true := by
  rw [bne_iff_ne]; intro e; exact h (UInt8.toNat_inj.1 (by omega))
end Go.Proofs.YtpoongljokbgcaaDoor
namespace Go.Proofs.YtpoongljokbgcaaDoor
open Go.RowKit
theorem u8_succ (n : Int) (h0 : 0 ≤ n) (h : n < 255) : IntKind.u8.wrap (n + 1) = n + 1 := by rw [IntKind.wrap_u8']; omega
theorem u8_and15 (n : Nat) (h : n < 256) : bits .and .u8 (n : Int) 15 = ((n % 16 : Nat) : Int) := by
  have := u8_and_nat n 15 h (by decide)
  rw [show (n &&& 15) = n % 16 from Nat.and_two_pow_sub_one_eq_mod n 4] at this
  exact this
theorem dig_cut (n : Nat) (h : n < 16) : (⟨#[48, 49, 50, 51, 52, 53, 54, 55, 56, 57, 97, 98, 99, 100, 101, 102]⟩ : ByteArray).extract n (n + 1) = ⟨#[Tr.dg n]⟩ := by
  have : ∀ m : Fin 16, (⟨#[48, 49, 50, 51, 52, 53, 54, 55, 56, 57, 97, 98, 99, 100, 101, 102]⟩ : ByteArray).extract m.val (m.val + 1) = ⟨#[Tr.dg m.val]⟩ := by decide +kernel
  exact this ⟨n, h⟩
theorem u8_in (n : Int) (h : 0 ≤ n ∧ n ≤ 255) : IntKind.u8.wrap n = n := IntWalk.u8_in n h
theorem app2 (a b : UInt8) : (⟨#[a]⟩ : ByteArray) ++ ⟨#[b]⟩ = ⟨#[a, b]⟩ := rfl
set_option maxHeartbeats 400000 in
theorem hex_any (c : UInt8) (w : World) :
    Calls Tryd.prog 40 #[.int .u8 c.toNat] w fun e w' => e = .returned (.string (S (Tr.hexB c))) ∧ ∃ n, w' = w.drewN n := by
  have hc : c.toNat < 256 := c.toNat_lt
  have hn : ∃ n, n = c.toNat := ⟨_, rfl⟩
  obtain ⟨n, hn⟩ := hn
  have H : Hid (Ending.returned (.string (S (Tr.hexB c))) = Ending.returned (.string ((⟨#[Tr.dg (n / 16)]⟩ : ByteArray) ++ ⟨#[Tr.dg (n % 16)]⟩))) := by rw [hn]; rfl
  rw [← hn] at hc ⊢
  clear hn
  have e1 := u8_succ ((n : Int) / 16) (by omega) (by omega)
  have e2 := u8_and15 n hc
  have e3 := u8_succ ((n % 16 : Nat) : Int) (by omega) (by omega)
  have d1 := Lib.hid (dig_cut (n / 16) (by omega))
  have d2 := Lib.hid (dig_cut (n % 16) (by omega))
  go_enter Tryd.func40, Tryd.ntmps40
  go_wp2
  go_quiet (fail)
  go_wp2
  go_ret
  exact ⟨by rw [H.out]; show Ending.returned (Value.string (_ ++ _)) = _; rw [d1.out, d2.out], _, rfl⟩

theorem indexByte_S (l : List UInt8) (c : UInt8) (w : World) :
    Calls Tryd.prog 16 #[.string ⟨l.toArray⟩, .int .u8 c.toNat] w fun e w' => e = .returned (.int .i64 (Lib.indexByte l c)) ∧ w' = w := by
  have := Tryd.strings_IndexByte (S l) c.toNat w
  rw [S_data, show ((c.toNat : Int).toNat.toUInt8) = c from by simp] at this
  exact this
theorem indexByte_eq (l : List UInt8) (c : UInt8) (x : Int) (w : World) (h : Lib.indexByte l c = x) :
    Calls Tryd.prog 16 #[.string ⟨l.toArray⟩, .int .u8 c.toNat] w fun e w' => e = .returned (.int .i64 x) ∧ w' = w := by
  rw [← h]; exact indexByte_S l c w
theorem indexByte_dgs (c : UInt8) (x : Int) (w : World) (h : Lib.indexByte Tr.dgs c = x) :
    Calls Tryd.prog 16 #[.string ⟨#[48, 49, 50, 51, 52, 53, 54, 55, 56, 57, 97, 98, 99, 100, 101, 102]⟩, .int .u8 c.toNat] w fun e w' => e = .returned (.int .i64 x) ∧ w' = w := indexByte_eq Tr.dgs c x w h
theorem indexByte_idx (l : List UInt8) (c : UInt8) : Lib.indexByte l c = if l.idxOf c < l.length then (l.idxOf c : Int) else -1 := by
  induction l with
  | nil => rfl
  | cons b l ih =>
    unfold Lib.indexByte
    rw [ih, List.idxOf_cons, List.length_cons]
    by_cases h : (b == c) = true
    · simp [h]
    · have h' : (b == c) = false := by simpa using h
      simp only [h', Bool.false_eq_true, if_false, cond_false]
      by_cases h2 : l.idxOf c < l.length
      · have h3 : l.idxOf c + 1 < l.length + 1 := by omega
        rw [if_pos h2, if_pos h3]
        have : ((l.idxOf c : Int) == -1) = false := by rw [beq_eq_false_iff_ne]; omega
        rw [this]; simp
      · have h3 : ¬ l.idxOf c + 1 < l.length + 1 := by omega
        rw [if_neg h2, if_neg h3]; rfl
theorem index_lt (c : UInt8) (h : Tr.nib c < 16) : Lib.indexByte Tr.dgs c = (Tr.nib c : Int) := by
  rw [indexByte_idx, if_pos (by exact h)]; rfl
theorem index_ge (c : UInt8) (h : ¬ Tr.nib c < 16) : Lib.indexByte Tr.dgs c = -1 := by
  rw [indexByte_idx, if_neg (by exact h)]
set_option maxHeartbeats 400000 in
theorem unhex_some (a b : UInt8) (r : List UInt8) (w : World) (hr : r.length ≤ 140737488355328) (d : UInt8) (hd : Tr.unh a b = some d) :
    Calls Tryd.prog 37 #[.string (S (a :: b :: r))] w fun e w' => e = .returned (.tuple #[.int .u8 d.toNat, .bool true]) ∧ ∃ n, w' = w.drewN n := by
  unfold Tr.unh at hd
  have hx : Tr.nib a < 16 ∧ Tr.nib b < 16 := by
    by_cases hx : Tr.nib a < 16 ∧ Tr.nib b < 16
    · exact hx
    · rw [if_neg hx] at hd; cases hd
  rw [if_pos hx] at hd
  obtain ⟨ha, hb⟩ := hx
  have h1 := Lib.hid (index_lt a ha)
  have h2 := Lib.hid (index_lt b hb)
  obtain ⟨x, hx⟩ : ∃ x, Tr.nib a = x := ⟨_, rfl⟩
  obtain ⟨y, hy⟩ : ∃ y, Tr.nib b = y := ⟨_, rfl⟩
  have H := Lib.hid (show d.toNat = 16 * x + y by rw [← Option.some.inj hd, hx, hy]; simp; omega)
  rw [hx] at h1 ha; rw [hy] at h2 hb
  clear hd hx hy
  have e1 := u8_in (16 * (x : Int) + y) (by omega)
  go_enter Tryd.func37, Tryd.ntmps37
  go_wp2
  go_quiet ((go_at_call 16; (first | with_reducible exact Calls.quiet_of_same (indexByte_dgs a _ _ h1.out) | with_reducible exact Calls.quiet_of_same (indexByte_dgs b _ _ h2.out))))
  go_wp2
  go_ret2
  exact ⟨by rw [H.out]; simp, _, rfl⟩
def Bad (w : World) (e : Ending) (w' : World) : Prop := (∃ v, e = .returned (.tuple #[.int .u8 v, .bool false])) ∧ ∃ n, w' = w.drewN n
set_option maxHeartbeats 400000 in
theorem unhex_short (r : List UInt8) (w : World) (hr : r.length < 2) : Calls Tryd.prog 37 #[.string (S r)] w (Bad w) := by
  go_enter Tryd.func37, Tryd.ntmps37
  go_wp2
  go_ret2
  exact ⟨⟨_, rfl⟩, 0, rfl⟩
set_option maxHeartbeats 400000 in
theorem unhex_none (a b : UInt8) (r : List UInt8) (w : World) (hr : r.length ≤ 140737488355328) (hd : Tr.unh a b = none) :
    Calls Tryd.prog 37 #[.string (S (a :: b :: r))] w (Bad w) := by
  have hx : ¬ (Tr.nib a < 16 ∧ Tr.nib b < 16) := by
    intro h; unfold Tr.unh at hd; rw [if_pos h] at hd; cases hd
  clear hd
  obtain ⟨x, h1, hx1, hx2⟩ : ∃ x, Lib.indexByte Tr.dgs a = x ∧ -1 ≤ x ∧ x < 16 := ⟨_, rfl, by rw [indexByte_idx]; split <;> omega, by rw [indexByte_idx]; split <;> simp_all [Tr.dgs]; omega⟩
  obtain ⟨y, h2, hy1, hy2⟩ : ∃ x, Lib.indexByte Tr.dgs b = x ∧ -1 ≤ x ∧ x < 16 := ⟨_, rfl, by rw [indexByte_idx]; split <;> omega, by rw [indexByte_idx]; split <;> simp_all [Tr.dgs]; omega⟩
  have hxy : x < 0 ∨ y < 0 := by
    by_cases ha : Tr.nib a < 16
    · exact .inr (by rw [← h2, index_ge b (fun hb => hx ⟨ha, hb⟩)]; omega)
    · exact .inl (by rw [← h1, index_ge a ha]; omega)
  clear hx
  have h1 := Lib.hid h1
  have h2 := Lib.hid h2
  go_enter Tryd.func37, Tryd.ntmps37
  go_wp2
  go_quiet ((go_at_call 16; (first | with_reducible exact Calls.quiet_of_same (indexByte_dgs a _ _ h1.out) | with_reducible exact Calls.quiet_of_same (indexByte_dgs b _ _ h2.out))))
  by_cases hx0 : 0 ≤ x
  · have hy0 : ¬ 0 ≤ y := by omega
    go_wp2
    go_ret2
    exact ⟨⟨_, rfl⟩, _, rfl⟩
  · go_wp2
    go_ret2
    exact ⟨⟨_, rfl⟩, _, rfl⟩
end Go.Proofs.YtpoongljokbgcaaDoor
namespace Go.Proofs.YtpoongljokbgcaaDoor
open Go.RowKit
theorem take_flat (l : List UInt8) (k : Nat) (h : k < l.length) : (l.take (k + 1)).flatMap Tr.quo1 = (l.take k).flatMap Tr.quo1 ++ Tr.quo1 (l.getD k 0) := by
  rw [List.take_succ_eq_append_getElem h, List.flatMap_append]; simp [h]
theorem quo1_len (c : UInt8) : (Tr.quo1 c).length ≤ 3 := by unfold Tr.quo1 Tr.hexB; split <;> simp
theorem flat_len (l : List UInt8) : (l.flatMap Tr.quo1).length ≤ 3 * l.length := by
  induction l with
  | nil => simp
  | cons c l ih => rw [List.flatMap_cons, List.length_append, List.length_cons]; have := quo1_len c; omega
theorem bare_yes (c : UInt8) (h : Tr.bare c = true) : ¬ (c.toNat : Int) < 33 ∧ ¬ 126 < (c.toNat : Int) ∧ ((c.toNat : Int) == 37) = false ∧ ((c.toNat : Int) == 58) = false := by
  unfold Tr.bare at h
  simp only [Bool.not_eq_true', Bool.or_eq_false_iff, decide_eq_false_iff_not, beq_eq_false_iff_ne] at h
  obtain ⟨⟨⟨h1, h2⟩, h3⟩, h4⟩ := h
  refine ⟨by omega, by omega, ?_, ?_⟩ <;> rw [beq_eq_false_iff_ne] <;> intro e
  · exact h3 (UInt8.toNat_inj.1 (by have : c.toNat = 37 := by omega
                                    simpa using this))
  · exact h4 (UInt8.toNat_inj.1 (by have : c.toNat = 58 := by omega
                                    simpa using this))
theorem bare_no (c : UInt8) (h : ¬ Tr.bare c = true) : (c.toNat : Int) < 33 ∨ (¬ (c.toNat : Int) < 33 ∧ (126 < (c.toNat : Int) ∨ (¬ 126 < (c.toNat : Int) ∧ (((c.toNat : Int) == 37) = true ∨ (((c.toNat : Int) == 37) = false ∧ ((c.toNat : Int) == 58) = true))))) := by
  unfold Tr.bare at h
  simp only [Bool.not_eq_true', Bool.or_eq_false_iff, decide_eq_false_iff_not, beq_eq_false_iff_ne] at h
  by_cases h1 : (c.toNat : Int) < 33
  · exact .inl h1
  refine .inr ⟨h1, ?_⟩
  by_cases h2 : 126 < (c.toNat : Int)
  · exact .inl h2
  refine .inr ⟨h2, ?_⟩
  by_cases h3 : c = 37
  · exact .inl (by subst h3; rfl)
  · have h4 : c = 58 := by
      by_cases h4 : c = 58
      · exact h4
      · exact (h ⟨⟨⟨by omega, by omega⟩, h3⟩, h4⟩).elim
    subst h4
    exact .inr ⟨rfl, rfl⟩
theorem isBuilder_drewN {T e : TypeId} {B b : Nat} {bs : List Value} {w : World} (h : Lib.IsBuilder T e B b bs w) (n : Nat) : Lib.IsBuilder T e B b bs (w.drewN n) := by
  rcases h with ⟨h1, v, h2, h3, h4⟩ | ⟨h1, v, h2, h3, h4⟩
  · exact .inl ⟨h1, v, h2, h3, h4⟩
  · exact .inr ⟨h1, v, h2, h3, h4⟩
def TextBelow (l : List UInt8) (w : World) (e : Ending) (w' : World) : Prop := e = .returned (.string (S l)) ∧ Below w.heap.size w w'
set_option maxHeartbeats 1000000 in
theorem quote_any (l : List UInt8) (w : World) (hl : 3 * l.length ≤ 140737488355328) :
    Calls Tryd.prog 12 #[.string (S l)] w (TextBelow (Tr.quo l) w) := by
  by_cases hn : l = []
  · subst hn
    go_enter Tryd.func12, Tryd.ntmps12
    go_wp2_with fail
    go_ret
    exact ⟨rfl, Below.refl _ _⟩
  have hne : (l == []) = false := by simpa using hn
  have H := Lib.hid (show Tr.quo l = l.flatMap Tr.quo1 by unfold Tr.quo; rw [if_neg hn])
  go_enter Tryd.func12, Tryd.ntmps12
  go_wp2_with fail
  go_loopw [10] (fun k wr => ∃ i : Nat, i ≤ l.length ∧ k = .int .i64 i ∧ Lib.IsBuilder 69 5 w.heap.size w.heap.size (Lib.byteCells ((l.take i).flatMap Tr.quo1)) wr ∧ Below w.heap.size w wr)
    (fun k _ => l.length - (intOf k).toNat)
  case atStart => exact ⟨0, Nat.zero_le _, rfl, Lib.fresh_isBuilder 69 5 w, (Below.refl _ _).alloc (Nat.le_refl _) _⟩
  case round =>
    obtain ⟨i, hi, rfl, hB, hW⟩ := hrel
    by_cases hlt : i < l.length
    · have hlen := flat_len (l.take i)
      rw [List.length_take] at hlen
      have hts := Lib.hid (take_flat l i hlt)
      obtain ⟨c, hc⟩ : ∃ c, l[i] = c := ⟨_, rfl⟩
      rw [show l.getD i 0 = c from by rw [← hc]; simp [hlt]] at hts
      have hsz := hW.size
      by_cases hb : Tr.bare c = true
      · have hq := Lib.hid (show Tr.quo1 c = [c] by unfold Tr.quo1; rw [if_pos hb])
        obtain ⟨b1, b2, b3, b4⟩ := bare_yes c hb
        clear hb
        go_wp2_with (go_at_call 41; refine (writeByte_any _ _ _ _ _ hB (by rw [Lib.byteCells_length]; omega) hsz).mono ?_; rintro e w1 ⟨rfl, hB1, hb1⟩)
        go_roundw
        case rel => exact ⟨i + 1, by omega, by go_num, .inr (by rw [hts.out, hq.out]; simpa [Lib.byteCells] using hB1), hW.trans hb1⟩
        case measure => simp [intOf]; omega
      · have hq := Lib.hid (show Tr.quo1 c = 37 :: Tr.hexB c by unfold Tr.quo1; rw [if_neg hb])
        have hb4 := bare_no c hb
        clear hb
        rcases hb4 with b1 | ⟨b1, b2 | ⟨b2, b3 | ⟨b3, b4⟩⟩⟩
        all_goals
          go_wp2_with fail
          refine (hex_any c _).mono ?_
          rintro e w1 ⟨rfl, nd, rfl⟩
          go_wp2_with fail
          refine (writeString_any w.heap.size w.heap.size _ _ _ (isBuilder_drewN hB nd) ?_ ?_).mono ?_
          · rw [Lib.byteCells_length, ByteArray.size_append, S_size]
            have : (⟨#[37]⟩ : ByteArray).size = 1 := rfl
            have : (Tr.hexB c).length = 2 := rfl
            omega
          · exact hsz
          rintro e w1 ⟨rfl, hB1, hb1⟩
          go_wp2_with fail
          go_roundw
          case rel => exact ⟨i + 1, by omega, by go_num, .inr (by rw [hts.out, hq.out]; simpa [Lib.byteCells, Lib.strCells, S] using hB1), hW.trans ⟨hb1.os, hb1.tape, hb1.output, hb1.size, hb1.block⟩⟩
          case measure => simp [intOf]; omega
    · have hi' : i = l.length := by omega
      subst hi'
      go_wp2_with (go_at_call 42; refine (Tryd.Builder_String_any _ _ _ _ hB hW.size).mono ?_; rintro e w1 ⟨rfl, hb1⟩)
      go_ret
      exact ⟨by rw [H.out]; rfl, hW.trans hb1⟩
end Go.Proofs.YtpoongljokbgcaaDoor
/- Slices of bytes and of texts in memory: what is read of them, what an append leaves. -/
namespace Go.Proofs.YtpoongljokbgcaaDoor
open Go.RowKit
variable {α : Type}
theorem strOfNums_bytes (l : List UInt8) : strOfNums (l.map fun c => (c.toNat : Int)) = S l := by
  unfold strOfNums S
  congr 2
  rw [List.map_map]
  exact (List.map_congr_left (fun c _ => by simp)).trans (List.map_id l)
/-- What a slice value reads as: a list of elements of one cell each. -/
def Rd (enc : α → Value) (W : World) (v : Value) (xs : List α) : Prop :=
  ∃ a cap, v = .slice a xs.length cap ∧ xs.length ≤ cap ∧ ∀ j x, xs[j]? = some x → ∃ b o, a = some ⟨b, o, none⟩ ∧ b < W.heap.size ∧ W.cell? ⟨b, o + j, none⟩ = some (enc x)
def byteV (c : UInt8) : Value := .int .u8 c.toNat
def strV (l : List UInt8) : Value := .string (S l)
abbrev RdB := Rd byteV
abbrev RdS := Rd strV
theorem Rd.nil (enc : α → Value) (W : World) : Rd enc W (.slice none 0 0) [] := ⟨none, 0, rfl, Nat.le_refl _, fun j x h => by simp at h⟩
theorem Rd.below {enc : α → Value} {W W' : World} {v : Value} {xs : List α} (h : Rd enc W v xs) (hb : Below W.heap.size W W') : Rd enc W' v xs := by
  obtain ⟨a, cap, h1, h2, h3⟩ := h
  refine ⟨a, cap, h1, h2, fun j x hj => ?_⟩
  obtain ⟨b, o, h4, h5, h6⟩ := h3 j x hj
  exact ⟨b, o, h4, Nat.lt_of_lt_of_le h5 hb.size, by rw [hb.cell (p := ⟨b, o + j, none⟩) h5]; exact h6⟩
theorem Rd.drewN {enc : α → Value} {W : World} {v : Value} {xs : List α} (h : Rd enc W v xs) (n : Nat) : Rd enc (W.drewN n) v xs := h
theorem Rd.of_own {enc : α → Value} {W : World} {B : Nat} {e : TypeId} {v : Value} {xs : List α} (h : W.ownsRow B e 1 v xs.length (xs.map enc)) : Rd enc W v xs := by
  have h' := h
  obtain ⟨_, ⟨rfl, h0⟩ | ⟨g, cap, cur, rfl, hg, hh, hc, hm, hs, ht⟩⟩ := h
  · refine ⟨none, 0, by rw [h0], by omega, fun j x hj => ?_⟩
    have : xs = [] := List.eq_nil_of_length_eq_zero h0
    subst this; simp at hj
  · refine ⟨_, cap, rfl, hc, fun j x hj => ⟨g, 0, rfl, (h'.lt g rfl).2, ?_⟩⟩
    have := h'.cells (g := g) rfl j (enc x) (by simp [hj])
    simpa [Addr.add] using (by
      by_cases h0 : j = 0
      · subst h0; simpa [Addr.add] using this
      · simpa [Addr.add, h0] using this)
theorem convert_rd {P : Program} {src e : TypeId} (hs : P.underlying src = some (.slice e)) (he : P.underlying e = some (.int .u8)) {dst : TypeId} (hd : P.underlying dst = some .string) {W : World} {v : Value} {l : List UInt8}
    (h : RdB W v l) : (convert src dst v).run P W = .ok (.string (S l)) W := by
  obtain ⟨a, cap, rfl, hc, h3⟩ := h
  cases l with
  | nil =>
    cases a with
    | none => exact run_convert_bytes_nil W src e hs he _ _ dst hd
    | some a =>
      rw [run_convert_bytes_string W src dst e _ _ cap hs he hd]
      have := run_bytesToString (P := P) W a 0 cap [] (by simp [loadCells]; rfl)
      rw [List.length_nil]; rw [this]; rfl
  | cons c l =>
    obtain ⟨b, o, rfl, _, _⟩ := h3 0 c rfl
    have := run_convert_bytes_arg (P := P) W src e hs he b o (c :: l).length cap ((c :: l).map fun c => (c.toNat : Int)) (by simp) (fun i hi => by
      obtain ⟨b', o', e', _, hcell⟩ := h3 i (c :: l)[i] (List.getElem?_eq_getElem hi)
      cases e'
      rw [hcell, List.getD_eq_getElem?_getD, List.getElem?_map, List.getElem?_eq_getElem hi]; rfl) dst hd
    rw [this, strOfNums_bytes]
theorem below_push {w wr w1 : World} {B : Nat} {e sz : Nat} {u : Value} {n : Nat} {xs : List Value} {o : Obj} (hW : Below B w wr) (hB : B ≤ w.heap.size) (hown : wr.ownsRow B e sz u n xs)
    (hg : ((wr.alloc o).drew).grownBy w1 u.ownBlock) : Below B w w1 :=
  ((hW.alloc (Nat.le_trans hB hW.size) o).drew).grown hg (by have := hW.size; simp; omega) (fun k hk => (hown.lt k hk).1)
theorem below_push' {w wr w1 : World} {B : Nat} {e sz : Nat} {u : Value} {n : Nat} {xs : List Value} {o : Obj} (hW : Below B w wr) (hB : B ≤ w.heap.size) (hown : wr.ownsRow B e sz u n xs)
    (hg : (wr.alloc o).grownBy w1 u.ownBlock) : Below B w w1 :=
  (hW.alloc (Nat.le_trans hB hW.size) o).grown hg (by have := hW.size; simp; omega) (fun k hk => (hown.lt k hk).1)
end Go.Proofs.YtpoongljokbgcaaDoor
