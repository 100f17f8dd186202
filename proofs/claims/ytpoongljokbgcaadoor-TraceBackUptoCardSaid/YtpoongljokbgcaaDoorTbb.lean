import Derived.Test.YtpoongljokbgcaaDoorTba
import Derived.Deep.RegionHeld3
import Derived.Deep.AppendLies
import Derived.Maps.AppendAt
import Derived.Lib.ConvBytes
import Derived.Laws.AppendOwnNone
import Derived.Lib.ItoaNum
import Derived.Lib.ItoaLen
namespace Go.Proofs.YtpoongljokbgcaaDoor
open Go.RowKit
def TextErr (o : Option (List UInt8)) (c : Int) (w : World) (e : Ending) (w' : World) : Prop :=
  e = .returned (match o with | some b => .tuple #[.string (S b), .int .i64 0] | none => .tuple #[.string (S []), .int .i64 c]) ∧ Below w.heap.size w w'
theorem below_drewN' {B : Nat} {w w' : World} {n : Nat} (h : Below B (w.drewN n) w') : Below B w w' := ⟨h.os, h.tape, h.output, h.size, h.block⟩
theorem own_drewN {w : World} {base : Nat} {e : TypeId} {size : Nat} {v : Value} {n : Nat} {xs : List Value} (h : w.ownsRow base e size v n xs) (k : Nat) : (w.drewN k).ownsRow base e size v n xs := h
theorem own_drew {w : World} {base : Nat} {e : TypeId} {size : Nat} {v : Value} {n : Nat} {xs : List Value} (h : w.ownsRow base e size v n xs) : w.drew.ownsRow base e size v n xs := h
theorem below_pushN {w wr w1 : World} {B : Nat} {e sz : Nat} {u : Value} {n : Nat} {xs : List Value} {o : Obj} {k : Nat} (hW : Below B w wr) (hB : B ≤ w.heap.size) (hown : wr.ownsRow B e sz u n xs)
    (hg : (((wr.alloc o).drewN k).drew).grownBy w1 u.ownBlock) : Below B w w1 :=
  have h1 : Below B w (((wr.alloc o).drewN k).drew) := by
    have h := (hW.alloc (Nat.le_trans hB hW.size) o)
    exact ⟨h.os, h.tape, h.output, h.size, h.block⟩
  h1.grown hg (by have := hW.size; simp; omega) (fun k hk => (hown.lt k hk).1)
theorem unq_yes {l : List UInt8} (h : Tr.quo (Tr.uq l).1 = l) : Tr.unq l = some (Tr.uq l).1 := by unfold Tr.unq; rw [if_pos h]
theorem unq_no {l : List UInt8} (h : ¬ Tr.quo (Tr.uq l).1 = l) : Tr.unq l = none := by unfold Tr.unq; rw [if_neg h]
set_option maxRecDepth 100000 in
set_option maxHeartbeats 1000000 in
theorem unquote_any (l : List UInt8) (w : World) (hl : 3 * l.length ≤ 140737488355328) :
    Calls Tryd.prog 10 #[.string (S l)] w (TextErr (Tr.unq l) 270 w) := by
  obtain ⟨i0, hi0, hz0, hz1, hz2⟩ := info_parts infoByte
  go_enter Tryd.func10, Tryd.ntmps10
  go_wp2_with fail
  go_loopw [4, 5] (fun b r wr => ∃ acc rest : List UInt8, r = .string (S rest) ∧ wr.ownsRow w.heap.size 5 1 b acc.length (Lib.byteCells acc) ∧ Below w.heap.size w wr ∧ acc.length + rest.length ≤ l.length ∧ (Tr.uq l).1 = acc ++ (Tr.uq rest).1)
    (fun _ r _ => match r with | .string s => s.size | _ => 0)
  case atStart => exact ⟨[], l, rfl, World.ownsRow_nil _ _ _ _, Below.refl _ _, by simp, by simp⟩
  case round =>
    obtain ⟨acc, rest, rfl, hown, hW, hlen, hu⟩ := hrel
    have hsz := hW.size
    cases rest with
    | nil =>
      rw [Tr.uq_nil, List.append_nil] at hu
      have hu := Lib.hid hu

      have hcv := convert_rd (P := Tryd.prog) Tryd.underlying28 Tryd.underlying5 Tryd.underlying9 (Rd.of_own hown)
      go_wp2_with fail
      refine (quote_any acc _ (by omega)).mono ?_
      rintro e w1 ⟨rfl, hb1⟩
      have hcv1 := convert_rd (P := Tryd.prog) Tryd.underlying28 Tryd.underlying5 Tryd.underlying9 ((Rd.of_own hown).below hb1)
      by_cases hq : Tr.quo acc = l
      · have hq' : (Tr.quo acc == l) = true := by simpa using hq
        have hq := Lib.hid hq
        go_wp2_with fail
        go_ret2
        exact ⟨by rw [unq_yes (by rw [hu.out]; exact hq.out)]; rw [hu.out]; rfl, hW.trans (hb1.mono hsz)⟩
      · have hq' : (Tr.quo acc == l) = false := by simpa using hq
        have hq := Lib.hid hq
        go_wp2_with fail
        go_ret2
        exact ⟨by rw [unq_no (by rw [hu.out]; exact hq.out)]; rfl, hW.trans (hb1.mono hsz)⟩

    | cons c r =>
      rw [List.length_cons] at hlen
      by_cases hc : c = 37
      · subst hc
        have bad : ∀ (h0 : (Tr.uq (37 :: r)).1 = []) (hC : Calls Tryd.prog 37 #[.string (S r)] wr (Bad wr)), True := fun _ _ => trivial
        clear bad
        by_cases hr : r.length < 2
        · rw [Tr.uq_short r hr, List.append_nil] at hu
          have hu := Lib.hid hu
          go_wp2_with fail
          refine (unhex_short r _ hr).mono ?_
          rintro e w0 ⟨⟨v, rfl⟩, nd, rfl⟩
          have hcv := convert_rd (P := Tryd.prog) Tryd.underlying28 Tryd.underlying5 Tryd.underlying9 (Rd.of_own (W := wr.drewN nd) hown)
          go_wp2_with fail
          refine (quote_any acc _ (by omega)).mono ?_
          rintro e w1 ⟨rfl, hb1⟩
          have hcv1 := convert_rd (P := Tryd.prog) Tryd.underlying28 Tryd.underlying5 Tryd.underlying9 ((Rd.of_own (W := wr.drewN nd) hown).below hb1)
          by_cases hq : Tr.quo acc = l
          · have hq' : (Tr.quo acc == l) = true := by simpa using hq
            have hq := Lib.hid hq
            go_wp2_with fail
            go_ret2
            exact ⟨by rw [unq_yes (by rw [hu.out]; exact hq.out)]; rw [hu.out]; rfl, hW.trans ((below_drewN' hb1).mono hsz)⟩
          · have hq' : (Tr.quo acc == l) = false := by simpa using hq
            have hq := Lib.hid hq
            go_wp2_with fail
            go_ret2
            exact ⟨by rw [unq_no (by rw [hu.out]; exact hq.out)]; rfl, hW.trans ((below_drewN' hb1).mono hsz)⟩
        obtain ⟨a, b, r', rfl⟩ : ∃ a b r', r = a :: b :: r' := by
          match r, hr with
          | a :: b :: r', _ => exact ⟨a, b, r', rfl⟩
          | [], h => simp at h
          | [_], h => simp at h
        simp only [List.length_cons] at hlen
        cases hd : Tr.unh a b with
        | none =>
          rw [Tr.uq_none a b r' hd, List.append_nil] at hu
          have hu := Lib.hid hu
          have hd' := Lib.hid hd
          clear hd
          go_wp2_with fail
          refine (unhex_none a b r' _ (by omega) hd'.out).mono ?_
          rintro e w0 ⟨⟨v, rfl⟩, nd, rfl⟩
          have hcv := convert_rd (P := Tryd.prog) Tryd.underlying28 Tryd.underlying5 Tryd.underlying9 (Rd.of_own (W := wr.drewN nd) hown)
          go_wp2_with fail
          refine (quote_any acc _ (by omega)).mono ?_
          rintro e w1 ⟨rfl, hb1⟩
          have hcv1 := convert_rd (P := Tryd.prog) Tryd.underlying28 Tryd.underlying5 Tryd.underlying9 ((Rd.of_own (W := wr.drewN nd) hown).below hb1)
          by_cases hq : Tr.quo acc = l
          · have hq' : (Tr.quo acc == l) = true := by simpa using hq
            have hq := Lib.hid hq
            go_wp2_with fail
            go_ret2
            exact ⟨by rw [unq_yes (by rw [hu.out]; exact hq.out)]; rw [hu.out]; rfl, hW.trans ((below_drewN' hb1).mono hsz)⟩
          · have hq' : (Tr.quo acc == l) = false := by simpa using hq
            have hq := Lib.hid hq
            go_wp2_with fail
            go_ret2
            exact ⟨by rw [unq_no (by rw [hu.out]; exact hq.out)]; rfl, hW.trans ((below_drewN' hb1).mono hsz)⟩
        | some d =>
          rw [Tr.uq_some a b d r' hd] at hu
          have hu := Lib.hid hu
          have hd' := Lib.hid hd
          clear hd
          go_wp2_with fail
          refine (unhex_some a b r' _ (by omega) d hd'.out).mono ?_
          rintro e w0 ⟨rfl, nd, rfl⟩
          go_wp2_with fail
          go_region_held3 (fun _ => True) (exact trivial)
            ((refine step_append_lies _ (by rfl) _ _ _ (by rfl) w.heap.size 5 i0 _ 1 1 Tryd.underlying28 hi0 hz0 hz1 hz2 rfl (by omega) _ acc.length (Lib.byteCells acc) (by rfl) (own_drew (own_drewN (hown.alloc _) nd)) ⟨wr.heap.size, 0, none⟩ 1 1 [.int .u8 d.toNat] (by rfl) (by rfl) (World.news_of_block (cs := #[.int .u8 d.toNat]) (t := 5) (fr := (0, 0)) (heap_alloc_new wr _)) (by simp [Value.oneCell']) (by omega) (by unfold maxLen; omega) (by omega) (by simp; omega) (wr.heap.size + 1) (by simp) ?_; intro gg cap w1 hown1 hgrow hat hlt))
          go_wp2_with fail
          go_roundw
          case rel => exact ⟨acc ++ [d], r', rfl, by simpa [Lib.byteCells] using hown1, below_pushN hW (Nat.le_refl _) hown hgrow, by simp; omega, by rw [hu.out]; simp⟩
          case measure => simp; omega
      · have hcb : ((c.toNat : Int) != 37) = true := byte_bne c 37 hc
        rw [Tr.uq_bare c r hc] at hu
        have hu := Lib.hid hu
        go_wp2_with fail
        go_region_held3 (fun _ => True) (exact trivial)
          ((refine step_append_lies _ (by rfl) _ _ _ (by rfl) w.heap.size 5 i0 _ 1 1 Tryd.underlying28 hi0 hz0 hz1 hz2 rfl (by omega) _ acc.length (Lib.byteCells acc) (by rfl) ((hown.alloc _).drew) ⟨wr.heap.size, 0, none⟩ 1 1 [.int .u8 c.toNat] (by rfl) (by rfl) (World.news_of_block (cs := #[.int .u8 c.toNat]) (t := 5) (fr := (0, 0)) (heap_alloc_new wr _)) (by simp [Value.oneCell']) (by omega) (by unfold maxLen; omega) (by omega) (by simp; omega) (wr.heap.size + 1) (by simp) ?_; intro gg cap w1 hown1 hgrow hat hlt))
        go_wp2_with fail
        go_roundw
        case rel => exact ⟨acc ++ [c], r, rfl, by simpa [Lib.byteCells] using hown1, below_push hW (Nat.le_refl _) hown hgrow, by simp; omega, by rw [hu.out]; simp⟩
        case measure => simp
end Go.Proofs.YtpoongljokbgcaaDoor
namespace Go.Proofs.YtpoongljokbgcaaDoor
open Go.RowKit
theorem grownBy_refl (w : World) (row : Option Nat) : w.grownBy w row := by
  constructor <;> simp
theorem own_lit (w : World) (base : Nat) (e : TypeId) (x : Value) (hB : base ≤ w.heap.size) :
    (w.alloc (.cells #[x] e)).ownsRow base e 1 (.slice (some ⟨w.heap.size, 0, none⟩) 1 1) 1 [x] :=
  ⟨rfl, .inr ⟨w.heap.size, 1, #[x], rfl, hB, heap_alloc_new w _, Nat.le_refl _, by decide, rfl, rfl⟩⟩
/-- append of a slice of the call's own to another one: the source may be nil. -/
theorem wpList_append_both {P : Program} {w : World} {ops : Array Oper} {rest : List Oper} {o : Oper} {a : Act} {Q : Exit → Act → World → Prop} (hgd : o.guard = none) (s x : Operand) (t : TypeId)
    (ho : o.op = .call { callee := .builtin .append, args := #[s, x], argTypes := #[t, t] })
    (base : Nat) (e : TypeId) (i : TypeInfo) (z : Value) (size bytes : Nat) (ht : P.underlying t = some (.slice e)) (hi : P.info? e = some i) (hz : i.zero = some z)
    (hsize : i.size = size) (hby : i.bytes = bytes) (hzs : z.cells.size = size) (hsz : 0 < size)
    (v : Value) (n : Nat) (xs : List Value) (hs : a.eval s = v) (hown : w.ownsRow base e size v n xs)
    (base2 : Nat) (v2 : Value) (m : Nat) (ys : List Value) (hx : a.eval x = v2) (hown2 : w.ownsRow base2 e size v2 m ys) (h1 : ∀ u ∈ ys, u.oneCell' = true)
    (h63 : n + m ≤ maxLen) (hbytes : (n + m) * bytes ≤ 140737488355328) (hbase : base ≤ w.heap.size)
    (h : ∀ v' w', w'.ownsRow base e size v' (n + m) (xs ++ ys) → w.grownBy w' v.ownBlock → wpList P ops Q rest (a.put o.dst v') w') : wpList P ops Q (o :: rest) a w := by
  have hl := hown2.1
  rcases hown2.2 with ⟨hv, h0⟩ | ⟨g, cap, cur, hv, _⟩
  · subst h0
    have : ys = [] := List.eq_nil_of_length_eq_zero (by rw [hl]; simp)
    subst this
    refine wpList_append_own_none hgd s x t ho base e i size ht hi v n xs hs hown (by rw [hx, hv]) ?_
    exact h v w (by simpa using hown) (grownBy_refl _ _)
  · exact wpList_append_own w hgd s x t ho base e i z size bytes ht hi hz hsize hby hzs hsz v n xs hs hown ⟨g, 0, none⟩ m cap ys (by rw [hx, hv]) hl
      (fun j u hj => hown2.cells (g := g) (by rw [hv]; rfl) j u hj) h1 h63 hbytes hbase fun v' w' a b _ => h v' w' a b
theorem own_below {W W' : World} {base : Nat} {e : TypeId} {size : Nat} {v : Value} {n : Nat} {xs : List Value} (h : W.ownsRow base e size v n xs) (hb : Below W.heap.size W W') : W'.ownsRow base e size v n xs := by
  have hlt := h.lt
  obtain ⟨h1, h2 | ⟨g, cap, cur, hv, h3, h4, h5⟩⟩ := h
  · exact ⟨h1, .inl h2⟩
  · exact ⟨h1, .inr ⟨g, cap, cur, hv, h3, (hb.block g (hlt g (by rw [hv]; rfl)).2).trans h4, h5⟩⟩
theorem byteCells_one (l : List UInt8) : ∀ u ∈ Lib.byteCells l, u.oneCell' = true := by
  intro u hu; simp only [Lib.byteCells, List.mem_map] at hu; obtain ⟨b, _, rfl⟩ := hu; rfl
theorem byteCells_cons (c : UInt8) (l : List UInt8) : Lib.byteCells (c :: l) = .int .u8 c.toNat :: Lib.byteCells l := rfl
end Go.Proofs.YtpoongljokbgcaaDoor
namespace Go.Proofs.YtpoongljokbgcaaDoor
open Go.RowKit
namespace Tr
def hexes (l : List UInt8) : List UInt8 := 120 :: l.flatMap Tr.hexB
/-- bytes of digits, two a byte; none: a sign that is no digit, or one digit left -/
def unhexes : List UInt8 → Option (List UInt8)
  | [] => some []
  | [_] => none
  | a :: b :: r => match unh a b with
    | some d => (unhexes r).map (d :: ·)
    | none => none
end Tr
theorem take_hex (l : List UInt8) (k : Nat) (h : k < l.length) : (l.take (k + 1)).flatMap Tr.hexB = (l.take k).flatMap Tr.hexB ++ Tr.hexB l[k] := by
  rw [List.take_succ_eq_append_getElem h, List.flatMap_append]; simp
theorem hexflat_len (l : List UInt8) : (l.flatMap Tr.hexB).length = 2 * l.length := by
  induction l with
  | nil => simp
  | cons c l ih => rw [List.flatMap_cons, List.length_append, List.length_cons, ih]; simp [Tr.hexB]; omega
/-- What a slice that holds something reads as. -/
theorem Rd.at {α : Type} {enc : α → Value} {W : World} {v : Value} {xs : List α} (h : Rd enc W v xs) (hx : xs ≠ []) :
    ∃ b o cap, v = .slice (some ⟨b, o, none⟩) xs.length cap ∧ xs.length ≤ cap ∧ b < W.heap.size ∧ ∀ j (hj : j < xs.length), W.cell? ⟨b, o + j, none⟩ = some (enc xs[j]) := by
  obtain ⟨a, cap, rfl, hc, h3⟩ := h
  match xs, hx with
  | x :: xs, _ =>
    obtain ⟨b, o, rfl, hb, _⟩ := h3 0 x rfl
    refine ⟨b, o, cap, rfl, hc, hb, fun j hj => ?_⟩
    obtain ⟨b', o', e, _, h⟩ := h3 j _ (List.getElem?_eq_getElem hj)
    cases e; exact h
theorem Rd.len {α : Type} {enc : α → Value} {W : World} {v : Value} {xs : List α} (h : Rd enc W v xs) : ∃ a cap, v = .slice a xs.length cap := by
  obtain ⟨a, cap, h1, _⟩ := h; exact ⟨a, cap, h1⟩
set_option maxRecDepth 100000 in
set_option maxHeartbeats 1000000 in
theorem hexes_any (v : Value) (l : List UInt8) (w : World) (hr : RdB w v l) (hl : 2 * l.length + 1 ≤ 140737488355328) :
    Calls Tryd.prog 44 #[v] w (TextBelow (Tr.hexes l) w) := by
  have hat : l ≠ [] → _ := hr.at
  obtain ⟨a, cap, rfl⟩ := hr.len
  go_enter Tryd.func44, Tryd.ntmps44
  go_wp2_with fail
  refine (writeByte_any w.heap.size w.heap.size [] 120 _ (Lib.fresh_isBuilder 69 5 w) (by simp) (by simp)).mono ?_
  rintro e w0 ⟨rfl, hB0, hb0⟩
  have hW0 : Below w.heap.size w w0 := ((Below.refl _ _).alloc (Nat.le_refl _) _).trans hb0
  clear hb0
  go_wp2_with fail
  go_loopw [9] (fun k wr => ∃ i : Nat, i ≤ l.length ∧ k = .int .i64 i ∧ Lib.IsBuilder 69 5 w.heap.size w.heap.size (Lib.byteCells (120 :: (l.take i).flatMap Tr.hexB)) wr ∧ Below w.heap.size w wr)
    (fun k _ => l.length - (intOf k).toNat)
  case atStart => exact ⟨0, Nat.zero_le _, rfl, .inr (by simpa [Lib.byteCells] using hB0), hW0⟩
  case round =>
    obtain ⟨i, hi, rfl, hB, hW⟩ := hrel
    have hsz := hW.size
    by_cases hlt : i < l.length
    · have hne : l ≠ [] := by intro h; rw [h] at hlt; simp at hlt
      obtain ⟨b, o, cap', hv, hcap, hb, hcell⟩ := hat hne
      cases hv
      have hc0 := hcell i hlt
      rw [← hW.cell (p := ⟨b, o + i, none⟩) hb] at hc0
      clear hcell hat hne
      have hlen := hexflat_len (l.take i)
      rw [List.length_take] at hlen
      replace hlen := Lib.hid hlen
      have hts := Lib.hid (take_hex l i hlt)
      obtain ⟨c, hc⟩ : ∃ c, l[i] = c := ⟨_, rfl⟩
      rw [hc] at hts hc0
      unfold byteV at hc0
      replace hc := Lib.hid hc
      go_wp2_with fail
      refine (hex_any c _).mono ?_
      rintro e w1 ⟨rfl, nd, rfl⟩
      go_wp2_with fail
      refine (writeString_any w.heap.size w.heap.size _ _ _ (isBuilder_drewN hB nd) ?_ ?_).mono ?_
      · rw [Lib.byteCells_length, List.length_cons, hlen.out, S_size]
        have : (Tr.hexB c).length = 2 := rfl
        omega
      · exact hsz
      rintro e w1 ⟨rfl, hB1, hb1⟩
      go_wp2_with fail
      go_roundw
      case rel => exact ⟨i + 1, by omega, by go_num, .inr (by rw [hts.out]; simpa [Lib.byteCells, Lib.strCells, S] using hB1), hW.trans (below_drewN' hb1)⟩
      case measure => simp [intOf]; omega
    · have hi' : i = l.length := by omega
      subst hi'
      go_wp2_with fail
      refine (Tryd.Builder_String_any _ _ _ _ hB hW.size).mono ?_
      rintro e w1 ⟨rfl, hb1⟩
      go_wp2_with fail
      go_ret
      exact ⟨by simp [Tr.hexes, S], hW.trans hb1⟩
end Go.Proofs.YtpoongljokbgcaaDoor
namespace Go.Proofs.YtpoongljokbgcaaDoor
open Go.RowKit
theorem get_idx (c : UInt8) (l : List UInt8) (h : l.idxOf c < l.length) : l[l.idxOf c] = c := by
  induction l with
  | nil => simp at h
  | cons b l ih =>
    by_cases hb : (b == c) = true
    · simp [eq_of_beq hb]
    · have hb' : (b == c) = false := by simpa using hb
      have h2 : l.idxOf c < l.length := by
        rw [List.idxOf_cons, hb', List.length_cons] at h
        simpa using h
      simp only [List.idxOf_cons, hb', cond_false, List.getElem_cons_succ]
      exact ih h2
theorem dg_nib (c : UInt8) (h : Tr.nib c < 16) : Tr.dg (Tr.nib c) = c := by
  unfold Tr.nib at *
  unfold Tr.dg
  rw [List.getD_eq_getElem?_getD, List.getElem?_eq_getElem (by exact h), Option.getD_some]
  exact get_idx c Tr.dgs h
theorem below_drewN (w : World) (n : Nat) : Below w.heap.size w (w.drewN n) := ⟨rfl, rfl, rfl, Nat.le_refl _, fun _ _ => rfl⟩
theorem below_thenN {B : Nat} {a w : World} (h : Below B a w) (n : Nat) : Below B a (w.drewN n) := ⟨h.os, h.tape, h.output, h.size, h.block⟩
set_option maxHeartbeats 1000000 in
theorem hexr_any (c : UInt8) (w : World) :
    Calls Tryd.prog 38 #[.int .u8 c.toNat] w fun e w' => e = .returned (.int .i64 (Lib.indexByte Tr.dgs c)) ∧ w' = w := by
  go_enter Tryd.func38, Tryd.ntmps38
  go_wp2_with fail
  go_loop [3] (fun k => ∃ i : Nat, i ≤ 16 ∧ k = .int .i64 i ∧ ∀ j, j < i → Tr.dg j ≠ c) (fun k => 16 - (intOf k).toNat)
  case atStart => exact ⟨0, by omega, rfl, fun j h => by omega⟩
  case round =>
    obtain ⟨i, hi, rfl, hno⟩ := hrel
    have hno := Lib.hid hno
    by_cases hlt : i < 16
    · have hix := fun w => run_index_S (P := Tryd.prog) w 9 Tr.dgs .i64 i Tryd.underlying9
      have hix' : ∀ w, (Instr.index 9 (.string ⟨#[48, 49, 50, 51, 52, 53, 54, 55, 56, 57, 97, 98, 99, 100, 101, 102]⟩) (.int .i64 i)).run Tryd.prog w = .ok (.int .u8 (Tr.dg i).toNat) w := by
        intro w; have := hix w; rw [if_pos ⟨by omega, by simp [Tr.dgs]; omega⟩] at this; exact this
      clear hix
      obtain ⟨d, hd⟩ : ∃ d, Tr.dg i = d := ⟨_, rfl⟩
      rw [hd] at hix'
      have hd := Lib.hid hd
      by_cases hc : d = c
      · have t := byte_eq d c hc
        have hc := Lib.hid hc
        go_wp2_with fail
        go_ret
        have hn : Tr.nib c = i := by rw [← hc.out, ← hd.out]; exact Tr.nib_dg i hlt
        exact ⟨by rw [index_lt c (by omega), hn]; rfl, rfl⟩
      · have t := byte_ne d c hc
        have hc := Lib.hid hc
        go_wp2_with fail
        go_round
        case rel => exact ⟨i + 1, by omega, by go_num, fun j hj => by
          rcases Nat.lt_or_ge j i with h | h
          · exact hno.out j h
          · obtain rfl : j = i := by omega
            rw [hd.out]; exact hc.out⟩
        case measure => simp [intOf]; omega
    · go_wp2_with fail
      go_ret
      exact ⟨by rw [index_ge c (fun h => hno.out _ (by omega) (dg_nib c h))]; rfl, rfl⟩
theorem drop_take1 (l : List UInt8) (i : Nat) (h : i < l.length) : List.drop i (List.take (i + 1) l) = [l[i]] := by
  rw [List.take_succ_eq_append_getElem h, List.drop_append_of_le_length (by simp; omega)]
  simp
set_option maxRecDepth 100000 in
set_option maxHeartbeats 1000000 in
theorem quoter_any (l : List UInt8) (w : World) (hl : 3 * l.length ≤ 140737488355328) :
    Calls Tryd.prog 13 #[.string (S l)] w (TextBelow (Tr.quo l) w) := by
  by_cases hn : l = []
  · subst hn
    go_enter Tryd.func13, Tryd.ntmps13
    go_wp2_with fail
    go_ret
    exact ⟨rfl, Below.refl _ _⟩
  have hne : (l == []) = false := by simpa using hn
  have H := Lib.hid (show Tr.quo l = l.flatMap Tr.quo1 by unfold Tr.quo; rw [if_neg hn])
  go_enter Tryd.func13, Tryd.ntmps13
  go_wp2_with fail
  go_loopw [3, 4] (fun o k wr => ∃ i : Nat, i ≤ l.length ∧ k = .int .i64 i ∧ o = .string (S ((l.take i).flatMap Tr.quo1)) ∧ Below w.heap.size w wr)
    (fun _ k _ => l.length - (intOf k).toNat)
  case atStart => exact ⟨0, Nat.zero_le _, rfl, rfl, Below.refl _ _⟩
  case round =>
    obtain ⟨i, hi, rfl, rfl, hW⟩ := hrel
    by_cases hlt : i < l.length
    · have hlen := flat_len (l.take i)
      rw [List.length_take] at hlen
      have hts := Lib.hid (take_flat l i hlt)
      have hdt := drop_take1 l i hlt
      obtain ⟨c, hc⟩ : ∃ c, l[i] = c := ⟨_, rfl⟩
      rw [show l.getD i 0 = c from by rw [← hc]; simp [hlt]] at hts
      rw [hc] at hdt
      obtain ⟨o, ho⟩ : ∃ o, (l.take i).flatMap Tr.quo1 = o := ⟨_, rfl⟩
      rw [ho] at hts hlen ⊢
      have ho := Lib.hid ho
      by_cases hb : Tr.bare c = true
      · have hq := Lib.hid (show Tr.quo1 c = [c] by unfold Tr.quo1; rw [if_pos hb])
        obtain ⟨b1, b2, b3, b4⟩ := bare_yes c hb
        clear hb
        have b3' : ((c.toNat : Int) != 37) = true := by rw [bne, b3]; rfl
        have b4' : ((c.toNat : Int) != 58) = true := by rw [bne, b4]; rfl
        go_wp2_with fail
        go_roundw
        case rel => exact ⟨i + 1, by omega, by go_num, by rw [hts.out, hq.out], hW⟩
        case measure => simp [intOf]; omega
      · have hq := Lib.hid (show Tr.quo1 c = 37 :: Tr.hexB c by unfold Tr.quo1; rw [if_neg hb])
        have hb4 := bare_no c hb
        clear hb
        have hcn : c.toNat < 256 := c.toNat_lt
        have e1 := u8_succ ((c.toNat : Int) / 16) (by omega) (by omega)
        have e2 := u8_and15 c.toNat hcn
        have e3 := u8_succ ((c.toNat % 16 : Nat) : Int) (by omega) (by omega)
        have d1 := dig_cut (c.toNat / 16) (by omega)
        have d2 := dig_cut (c.toNat % 16) (by omega)
        rcases hb4 with b1 | ⟨b1, b2 | ⟨b2, b3 | ⟨b3, b4⟩⟩⟩
        all_goals
          (try have b3' : ((c.toNat : Int) != 37) = false := by rw [bne, b3]; rfl)
          (try have b3' : ((c.toNat : Int) != 37) = true := by rw [bne, b3]; rfl)
          (try have b4' : ((c.toNat : Int) != 58) = false := by rw [bne, b4]; rfl)
          go_wp2_with fail
          go_quiet (fail)
          go_wp2_with fail
          go_roundw
          case rel => exact ⟨i + 1, by omega, by go_num, by rw [hts.out, hq.out]; simp [S, Tr.hexB, ByteArray.ext_iff], below_thenN hW _⟩
          case measure => simp [intOf]; omega
    · have hi' : i = l.length := by omega
      subst hi'
      go_wp2_with fail
      go_ret
      exact ⟨by rw [H.out]; simp, hW⟩
end Go.Proofs.YtpoongljokbgcaaDoor
namespace Go.Proofs.YtpoongljokbgcaaDoor
open Go.RowKit
theorem trim_yes (c : UInt8) (r : List UInt8) : Lib.trimPrefix (c :: r) [c] = r := by simp [Lib.trimPrefix, Lib.hasPrefix]
theorem has_yes (c : UInt8) (r : List UInt8) : Lib.hasPrefix (c :: r) [c] = true := by simp [Lib.hasPrefix]
theorem trim_no (c d : UInt8) (r : List UInt8) (h : d ≠ c) : Lib.trimPrefix (d :: r) [c] = d :: r := by
  have h' : ¬ c = d := fun e => h e.symm
  simp [Lib.trimPrefix, Lib.hasPrefix, h']
theorem has_no (c d : UInt8) (r : List UInt8) (h : d ≠ c) : Lib.hasPrefix (d :: r) [c] = false := by
  have h' : ¬ c = d := fun e => h e.symm
  simp [Lib.hasPrefix, List.isPrefixOf, h']
theorem cutPrefix_S (l p : List UInt8) (w : World) :
    Calls Tryd.prog 73 #[.string (S l), .string ⟨p.toArray⟩] w fun e w' => e = .returned (.tuple #[.string (S (Lib.trimPrefix l p)), .bool (Lib.hasPrefix l p)]) ∧ w = w' :=
  (Tryd.strings_CutPrefix (S l) (S p) w).mono fun _ _ ⟨a, b⟩ => ⟨a, b.symm⟩
/-- What is left of a text behind an 'x', as bytes. -/
def BytesBool (o : Option (List UInt8)) (w : World) (e : Ending) (w' : World) : Prop :=
  match o with
  | some l => (∃ v, e = .returned (.tuple #[v, .bool true]) ∧ w'.ownsRow w.heap.size 5 1 v l.length (Lib.byteCells l)) ∧ Below w.heap.size w w'
  | none => (∃ v, e = .returned (.tuple #[v, .bool false]) ∧ w'.ownsRow w.heap.size 5 1 v 0 []) ∧ Below w.heap.size w w'
def Tr.unhexesX (l : List UInt8) : Option (List UInt8) := match l with
  | 120 :: r => Tr.unhexes r
  | _ => none
set_option maxRecDepth 100000 in
set_option maxHeartbeats 1000000 in
theorem unhexes_core (l : List UInt8) (s : List UInt8) (w : World) (h1 : Lib.trimPrefix s [120] = l) (h2 : Lib.hasPrefix s [120] = true) (hl : l.length ≤ 140737488355328) :
    Calls Tryd.prog 48 #[.string (S s)] w (BytesBool (Tr.unhexes l) w) := by
  obtain ⟨i0, hi0, hz0, hz1, hz2⟩ := info_parts infoByte
  replace h1 := Lib.hid h1
  replace h2 := Lib.hid h2
  go_enter Tryd.func48, Tryd.ntmps48
  go_wp2_with fail
  refine (cutPrefix_S s [120] _).mono ?_
  rw [h1.out, h2.out]
  rintro e w0 ⟨rfl, rfl⟩
  go_wp2_with fail
  go_loopw [4, 6] (fun r b wr => ∃ acc rest : List UInt8, r = .string (S rest) ∧ wr.ownsRow w.heap.size 5 1 b acc.length (Lib.byteCells acc) ∧ Below w.heap.size w wr ∧ acc.length + rest.length ≤ l.length ∧ Tr.unhexes l = (Tr.unhexes rest).map (acc ++ ·))
    (fun r _ _ => match r with | .string s => s.size | _ => 0)
  case atStart => exact ⟨[], l, rfl, World.ownsRow_nil _ _ _ _, Below.refl _ _, by simp, by simp⟩
  case round =>
    obtain ⟨acc, rest, rfl, hown, hW, hlen, hu⟩ := hrel
    have hsz := hW.size
    match rest with
    | [] =>
      replace hu := Lib.hid (show Tr.unhexes l = some acc by rw [hu]; simp [Tr.unhexes])
      go_wp2_with fail
      go_ret2
      rw [hu.out]
      exact ⟨⟨_, rfl, hown⟩, hW⟩
    | [c] =>
      replace hu := Lib.hid (show Tr.unhexes l = none by rw [hu]; simp [Tr.unhexes])
      go_wp2_with fail
      refine (unhex_short [c] _ (by simp)).mono ?_
      rintro e w0 ⟨⟨v, rfl⟩, nd, rfl⟩
      go_wp2_with fail
      go_ret2
      rw [hu.out]
      exact ⟨⟨_, rfl, World.ownsRow_nil _ _ _ _⟩, below_thenN hW nd⟩
    | a :: b :: r =>
      simp only [List.length_cons] at hlen
      cases hd : Tr.unh a b with
      | none =>
        replace hu := Lib.hid (show Tr.unhexes l = none by rw [hu]; simp [Tr.unhexes, hd])
        replace hd := Lib.hid hd
        go_wp2_with fail
        refine (unhex_none a b r _ (by omega) hd.out).mono ?_
        rintro e w0 ⟨⟨v, rfl⟩, nd, rfl⟩
        go_wp2_with fail
        go_ret2
        rw [hu.out]
        exact ⟨⟨_, rfl, World.ownsRow_nil _ _ _ _⟩, below_thenN hW nd⟩
      | some d =>
        replace hu := Lib.hid (show Tr.unhexes l = (Tr.unhexes r).map ((acc ++ [d]) ++ ·) by rw [hu]; simp [Tr.unhexes, hd, Function.comp_def])
        replace hd := Lib.hid hd
        go_wp2_with fail
        refine (unhex_some a b r _ (by omega) d hd.out).mono ?_
        rintro e w0 ⟨rfl, nd, rfl⟩
        go_wp2_with fail
        go_region_held3 (fun _ => True) (exact trivial)
          ((refine step_append_lies _ (by rfl) _ _ _ (by rfl) w.heap.size 5 i0 _ 1 1 Tryd.underlying28 hi0 hz0 hz1 hz2 rfl (by omega) _ acc.length (Lib.byteCells acc) (by rfl) (own_drew (own_drewN (hown.alloc _) nd)) ⟨wr.heap.size, 0, none⟩ 1 1 [.int .u8 d.toNat] (by rfl) (by rfl) (World.news_of_block (cs := #[.int .u8 d.toNat]) (t := 5) (fr := (0, 0)) (heap_alloc_new wr _)) (by simp [Value.oneCell']) (by omega) (by unfold maxLen; omega) (by omega) (by simp; omega) (wr.heap.size + 1) (by simp) ?_; intro gg cap w1 hown1 hgrow hat hlt))
        go_wp2_with fail
        go_roundw
        case rel => exact ⟨acc ++ [d], r, rfl, by simpa [Lib.byteCells] using hown1, below_pushN hW (Nat.le_refl _) hown hgrow, by simp; omega, hu.out⟩
        case measure => simp; omega
set_option maxRecDepth 100000 in
set_option maxHeartbeats 1000000 in
theorem unhexes_any (s : List UInt8) (w : World) (hl : s.length ≤ 140737488355328) :
    Calls Tryd.prog 48 #[.string (S s)] w (BytesBool (Tr.unhexesX s) w) := by
  have hno : (Lib.hasPrefix s [120] = false → Tr.unhexesX s = none → Calls Tryd.prog 48 #[.string (S s)] w (BytesBool (Tr.unhexesX s) w)) := by
    intro h2 h3
    replace h2 := Lib.hid h2
    rw [h3]
    clear h3
    go_enter Tryd.func48, Tryd.ntmps48
    go_wp2_with fail
    refine (cutPrefix_S s [120] _).mono ?_
    rw [h2.out]
    rintro e w0 ⟨rfl, rfl⟩
    go_wp2_with fail
    refine wp_loop_rounds 1 ?_
    rw [rounds_succ]
    go_wp2_with fail
    go_ret2
    exact ⟨⟨_, rfl, World.ownsRow_nil _ _ _ _⟩, Below.refl _ _⟩
  match s with
  | [] => exact hno (by rfl) rfl
  | c :: r =>
    by_cases h : c = 120
    · subst h
      exact unhexes_core r (120 :: r) w (trim_yes _ _) (has_yes _ _) (by simp at hl; omega)
    · exact hno (has_no 120 c r h) (by unfold Tr.unhexesX; split <;> simp_all)
end Go.Proofs.YtpoongljokbgcaaDoor
namespace Go.Proofs.YtpoongljokbgcaaDoor
open Go.RowKit
theorem below_lit {w wr w1 : World} {B : Nat} {o : Obj} {n c : Nat} (hW : Below B w wr) (hB : B ≤ w.heap.size)
    (hg : (wr.alloc o).grownBy w1 (Value.slice (some ⟨wr.heap.size, 0, none⟩) n c).ownBlock) : Below B w w1 :=
  (hW.alloc (Nat.le_trans hB hW.size) o).grown hg (by have := hW.size; simp; omega) (fun k hk => by cases hk; exact Nat.le_trans hB hW.size)
theorem digit_byte (v : Nat) : IntKind.u8.wrap (IntKind.u64.wrap (48 + (v % 10 : Nat))) = ((UInt8.ofNat (48 + v % 10)).toNat : Int) := by
  rw [IntWalk.u64_in _ (by omega), IntWalk.u8_in _ (by omega)]
  simp; omega
theorem decDigits_step (v : Nat) (h : 9 < v) : Lib.decDigits v = Lib.decDigits (v / 10) ++ [UInt8.ofNat (48 + v % 10)] := by
  rw [Lib.decDigits, dif_neg (by omega)]
theorem decDigits_last (v : Nat) (h : ¬ 9 < v) : Lib.decDigits v = [UInt8.ofNat (48 + v)] := Lib.decDigits_one (by omega)
set_option maxRecDepth 100000 in
set_option maxHeartbeats 1000000 in
theorem num_any (n : Int) (w : World) (h0 : -9223372036854775808 ≤ n) (h1 : n ≤ 9223372036854775807) :
    Calls Tryd.prog 43 #[.int .i64 n] w (TextBelow (Lib.itoa n) w) := by
  obtain ⟨i0, hi0, hz0, hz1, hz2⟩ := info_parts infoByte
  have hmax := Lib.itoa_length_le n h0 h1
  by_cases hn : n < 0
  all_goals
    obtain ⟨U, hUn, hUl⟩ : ∃ U : Nat, n.natAbs = U ∧ (Lib.decDigits U).length ≤ 21 := ⟨_, rfl, by
      unfold Lib.itoa at hmax
      first
        | (rw [if_pos hn] at hmax; simp at hmax; omega)
        | (rw [if_neg hn] at hmax; rw [show n.natAbs = n.toNat by omega]; exact hmax)⟩
    have hfin := Lib.hid (show Lib.itoa n = (if n < 0 then [45] else []) ++ Lib.decDigits U by
      unfold Lib.itoa
      first
        | (rw [if_pos hn, if_pos hn, hUn]; rfl)
        | (rw [if_neg hn, if_neg hn, ← hUn, show n.natAbs = n.toNat by omega]; rfl))
    have hU0 : U ≤ 9223372036854775808 := by omega
    have e1 : IntKind.u64.wrap n = if n < 0 then 18446744073709551616 - (U : Int) else U := by
      rw [IntKind.wrap_u64]; split <;> omega
    obtain ⟨V, hV⟩ : ∃ V : Int, (if n < 0 then 18446744073709551616 - (U : Int) else U) = V := ⟨_, rfl⟩
    have e2 : n < 0 → IntKind.u64.wrap (-V) = U := by
      intro h; rw [← hV, if_pos h, IntKind.wrap_u64]; omega
    rw [hV] at e1
    first | replace e2 := e2 hn | (rw [if_neg hn] at hV; subst hV; clear e2)
    replace hU0 := Lib.hid hU0
    clear hmax hUn
    replace h0 := Lib.hid h0
    replace h1 := Lib.hid h1
    (try replace hV := Lib.hid hV)
    go_enter Tryd.func43, Tryd.ntmps43
    go_wp2_with fail
    go_loopw [3, 4] (fun u b wr => ∃ (v : Nat) (acc : List UInt8), u = .int .u64 v ∧ v ≤ U ∧ wr.ownsRow w.heap.size 5 1 b acc.length (Lib.byteCells acc) ∧ Below w.heap.size w wr ∧ Lib.decDigits U = Lib.decDigits v ++ acc)
      (fun u _ _ => (intOf u).toNat)
    case atStart => exact ⟨U, [], rfl, Nat.le_refl _, World.ownsRow_nil _ _ _ _, Below.refl _ _, by simp⟩
    case round =>
      obtain ⟨v, acc, rfl, hv, hown, hW, hd⟩ := hrel
      have hal : acc.length ≤ 21 := by rw [hd] at hUl; simp at hUl; omega
      have hsz := hW.size
      have hvU := Lib.hid (Nat.le_trans hv hU0.out)
      by_cases h9 : 9 < v
      · have hs := Lib.hid (decDigits_step v h9)
        replace hd := Lib.hid hd
        have e5 : IntKind.u64.wrap ((v : Int) / 10) = (v : Int) / 10 := by have := hvU.out; rw [IntKind.wrap_u64]; omega
        obtain ⟨c, hc, hs'⟩ : ∃ c : UInt8, (48 + (v : Int) % 10) = (c.toNat : Int) ∧ Lib.decDigits v = Lib.decDigits (v / 10) ++ [c] := ⟨UInt8.ofNat (48 + v % 10), by simp; omega, hs.out⟩
        replace hc := Lib.hid hc
        replace hs' := Lib.hid hs'
        go_wp2_with (at_builtin; refine wpList_append_both rfl _ _ 28 rfl w.heap.size 5 i0 (.int .u8 0) 1 1 Tryd.underlying28 hi0 hz0 hz1 hz2 rfl (by decide) _ 1 [.int .u8 (48 + (v : Int) % 10)] rfl (own_lit wr w.heap.size 5 _ hsz) w.heap.size _ acc.length (Lib.byteCells acc) rfl (hown.alloc _) (byteCells_one acc) (by unfold maxLen; omega) (by omega) (by simp; omega) ?_; intro v' w1 hown1 hgrow)
        go_wp2_with fail
        go_roundw
        case rel => exact ⟨v / 10, c :: acc, by go_num, by omega, by rw [hc.out] at hown1; simpa [byteCells_cons, Nat.add_comm] using hown1, below_lit hW (Nat.le_refl _) hgrow, by rw [hd.out, hs'.out]; simp⟩
        case measure => simp [intOf]; omega
      · have hs := Lib.hid (decDigits_last v h9)
        replace hd := Lib.hid hd
        obtain ⟨c, hc, hs'⟩ : ∃ c : UInt8, (48 + (v : Int)) = (c.toNat : Int) ∧ Lib.decDigits U = c :: acc := ⟨UInt8.ofNat (48 + v), by simp; omega, by rw [hd.out, hs.out]; rfl⟩
        replace hc := Lib.hid hc
        replace hs' := Lib.hid hs'
        go_wp2_with (at_builtin; refine wpList_append_both rfl _ _ 28 rfl w.heap.size 5 i0 (.int .u8 0) 1 1 Tryd.underlying28 hi0 hz0 hz1 hz2 rfl (by decide) _ 1 [.int .u8 (48 + (v : Int))] rfl (own_lit wr w.heap.size 5 _ hsz) w.heap.size _ acc.length (Lib.byteCells acc) rfl (hown.alloc _) (byteCells_one acc) (by unfold maxLen; omega) (by omega) (by simp; omega) ?_; intro v' w1 hown1 hgrow)
        rw [hc.out] at hown1
        have hcv := convert_rd (P := Tryd.prog) Tryd.underlying28 Tryd.underlying5 Tryd.underlying9 (Rd.of_own (enc := byteV) (xs := c :: acc) (by rw [Nat.add_comm] at hown1; exact hown1))
        rw [hcv]
        go_wp2_with fail
        go_ret
        exact ⟨by rw [hfin.out, hs'.out]; first | (rw [if_pos hn, ← S_append]; rfl) | (rw [if_neg (by omega)]; rfl), below_lit hW (Nat.le_refl _) hgrow⟩
end Go.Proofs.YtpoongljokbgcaaDoor
