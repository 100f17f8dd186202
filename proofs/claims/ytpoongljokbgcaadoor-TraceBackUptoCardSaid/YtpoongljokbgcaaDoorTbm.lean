import Derived.Test.YtpoongljokbgcaaDoorTbi
import Derived.Test.YtpoongljokbgcaaDoorTbl
import Derived.Maps.AppendAt
import Derived.Maps.OwnIn
import Derived.BigRegionIn
/- The calls of a text (trace.Script): a loop over the lines' iterator. -/
namespace Go.Proofs.YtpoongljokbgcaaDoor
open Go.RowKit Go.Shelf
attribute [local go_sem] Oper.semAt_some
/-- trace.Lines: the text is boxed; the function value captures the box. -/
theorem linesF_in (n : Nat) (s : List UInt8) (w : World) :
    CallsIn Fence.wide n Tryd.prog 55 #[.string (S s)] w fun e w' => e = .returned (.func (.func 76) #[] #[.pointer (some ⟨w.heap.size, 0, none⟩)]) ∧ w' = w.alloc (.cells #[.string (S s)] 9) := by
  refine callsIn_of_wp Tryd.func55 rfl trivial ?_ rfl
  simp only [Tryd.ntmps55, List.size_toArray, List.length_cons, List.length_nil, Nat.reduceAdd, Nat.reduceSub, Array.replicate_succ, Array.replicate_zero, List.push_toArray, List.append_toArray, List.nil_append, List.cons_append]
  gi_wp2
  go_ret
  exact ⟨rfl, rfl⟩
theorem keepsOthers_below {W W' : World} (h : Below W.heap.size W W') : KeepsOthers W W' :=
  ⟨h.size, fun k _ hk _ => (h.block k (Array.getElem?_eq_some_iff.1 hk).1).trans hk⟩
/-- A list of calls is kept where a block that is no cells turns. -/
theorem OwnO.walked {W W' : World} {B : Nat} {v : Value} {ds : List (Opr × Value)} {row : Option Nat} (h : OwnO W B v ds) (hg : W.grownBy W' row) (hr : ∀ r, row = some r → ∃ o : Obj, W.heap[r]? = some o ∧ o.isCells = false) : OwnO W' B v ds := by
  refine ⟨h.own.kept hg ?_, fun p hp => ?_⟩
  · rcases h.own.2 with ⟨rfl, _⟩ | ⟨g, cap, cur, rfl, _, hgb, _⟩
    · exact .inl rfl
    · refine .inr fun e' => ?_
      obtain ⟨_, ho, hc⟩ := hr g (by simpa [Value.ownBlock] using e'.symm)
      rw [hgb] at ho; cases ho; cases hc
  · obtain ⟨a, cap, h1, h2, h3⟩ := h.data p hp
    refine ⟨a, cap, h1, h2, fun j x hj => ?_⟩
    obtain ⟨b, o, e1, e2, e3, e4⟩ := h3 j x hj
    exact ⟨b, o, e1, Nat.lt_of_lt_of_le e2 hg.size, e3, cell_kept e4 hg hr⟩
theorem boxed_walked {W W' : World} {B : Nat} {t : TypeId} {v : Value} {row : Option Nat} (h : Boxed W B t v) (hg : W.grownBy W' row) (hr : ∀ r, row = some r → ∃ o : Obj, W.heap[r]? = some o ∧ o.isCells = false) : Boxed W' B t v :=
  h.kept hg fun e => by
    obtain ⟨o, ho, hc⟩ := hr B e.symm
    rw [show W.heap[B]? = _ from h] at ho; cases ho; cases hc
theorem boxed_below {W W' : World} {B : Nat} {t : TypeId} {v : Value} (h : Boxed W B t v) (hb : Below W.heap.size W W') : Boxed W' B t v := (hb.block B h.lt).trans h
theorem boxed_apart {W : World} {B b i : Nat} {t : TypeId} {v : Value} {c : UInt8} (h : Boxed W B t v) (hv : ∀ n, v ≠ .int .u8 n) (hc : W.cell? ⟨b, i, none⟩ = some (byteV c)) : b ≠ B := by
  rintro rfl
  have hb : W.cell? ⟨b, i, none⟩ = (#[v] : Array Value)[i]? := by simp [World.cell?, show W.heap[b]? = _ from h]
  rw [hc] at hb
  match i, hb with
  | 0, hb => simp at hb; exact hv _ hb.symm
  | i + 1, hb => simp at hb
theorem own_push_cells {W w3 : World} {B : Nat} {e : TypeId} {size n : Nat} {v : Value} {xs : List Value} (h : W.ownsRow B e size v n xs) (hg : W.grownBy w3 v.ownBlock) : KeepsOthers W w3 :=
  KeepsOthers.of_grownBy hg fun j o ej hj => by
    rcases h.2 with ⟨rfl, _⟩ | ⟨g, cap, cur, rfl, _, hgb, _⟩
    · simp [Value.ownBlock] at ej
    · obtain rfl : g = j := by simpa [Value.ownBlock] using ej
      rw [hgb] at hj; cases hj; rfl
/-- A list of calls is kept where the box of its slice is stored into. -/
theorem OwnO.boxSet {W : World} {B Bx : Nat} {ty : TypeId} {v : Value} {ds : List (Opr × Value)} {u : Value} (h : OwnO W B v ds) (hb : Boxed W Bx ty u) (hty : ty ≠ 44) (hu : ∀ n, u ≠ .int .u8 n) (x : Value) : OwnO (W.setCell ⟨Bx, 0, none⟩ x) B v ds := by
  refine ⟨h.own.kept (grownBy_setCell' W Bx x) (.inr (hb.not_row hty h.own).symm), fun p hp => ?_⟩
  obtain ⟨a, cap, h1, h2, h3⟩ := h.data p hp
  refine ⟨a, cap, h1, h2, fun j y hj => ?_⟩
  obtain ⟨b, o, e1, e2, e3, e4⟩ := h3 j y hj
  have hne := boxed_apart hb hu e4
  exact ⟨b, o, e1, by simpa [World.setCell] using e2, e3, (World.cell?_setCell_other W _ _ _ (by intro h; have h' := congrArg Addr.block h; simp at h'; exact hne h'.symm)).trans e4⟩
/-- Three boxes stored into. -/
theorem three_set {A : World} {H : Nat} {a b c : Value} (g0 : Boxed A H 42 a) (g1 : Boxed A (H + 1) 3 b) (g2 : Boxed A (H + 1 + 1) 23 c) (x y z : Value) :
    Boxed (((A.setCell ⟨H, 0, none⟩ x).setCell ⟨H + 1, 0, none⟩ y).setCell ⟨H + 1 + 1, 0, none⟩ z) H 42 x ∧ Boxed (((A.setCell ⟨H, 0, none⟩ x).setCell ⟨H + 1, 0, none⟩ y).setCell ⟨H + 1 + 1, 0, none⟩ z) (H + 1) 3 y ∧
    Boxed (((A.setCell ⟨H, 0, none⟩ x).setCell ⟨H + 1, 0, none⟩ y).setCell ⟨H + 1 + 1, 0, none⟩ z) (H + 1 + 1) 23 z :=
  ⟨((g0.set x).other (by omega) y).other (by omega) z, ((g1.other (by omega) x).set y).other (by omega) z, ((g2.other (by omega) x).other (by omega) y).set z⟩
theorem three_keeps (A : World) (H : Nat) (x y z : Value) : KeepsOthers A (((A.setCell ⟨H, 0, none⟩ x).setCell ⟨H + 1, 0, none⟩ y).setCell ⟨H + 1 + 1, 0, none⟩ z) :=
  ((KeepsOthers.setCell _ _ _).trans (KeepsOthers.setCell _ _ _)).trans (KeepsOthers.setCell _ _ _)
theorem three_below {B : Nat} {u A : World} (h : Below B u A) {H : Nat} (hB : B ≤ H) (x y z : Value) : Below B u (((A.setCell ⟨H, 0, none⟩ x).setCell ⟨H + 1, 0, none⟩ y).setCell ⟨H + 1 + 1, 0, none⟩ z) :=
  ((h.setCell (p := ⟨H, 0, none⟩) hB x).setCell (p := ⟨H + 1, 0, none⟩) (by show B ≤ H + 1; omega) y).setCell (p := ⟨H + 1 + 1, 0, none⟩) (by show B ≤ H + 1 + 1; omega) z
/-- Between two lines: the calls so far. -/
def ScrI (w : World) (pre : List Ln) (W : World) : Prop :=
  ∃ (ds : List (Opr × Value)) (ao : Option Addr) (cp : Nat), Boxed W (w.heap.size + 1 + 1 + 1) 42 (.slice ao ds.length cp) ∧ OwnO W w.heap.size (.slice ao ds.length cp) ds ∧ pre.map (fun x => Tr.parse x.1.2) = ds.map (fun p => some p.1) ∧
    Boxed W w.heap.size 42 (.slice none 0 0) ∧ Boxed W (w.heap.size + 1) 3 (.int .i64 0) ∧ Boxed W (w.heap.size + 1 + 1) 23 (.int .i64 0) ∧ Below w.heap.size w W
/-- A line that is none: the answer is laid. -/
def ScrX (w : World) (c : Code) (pre : List Ln) (W : World) : Prop :=
  c = .ret ∧ ∃ (pre' : List Ln) (x : Ln) (ds : List (Opr × Value)), pre = pre' ++ [x] ∧ pre'.map (fun x => Tr.parse x.1.2) = ds.map (fun p => some p.1) ∧ Tr.parse x.1.2 = none ∧
    Boxed W w.heap.size 42 (.slice none 0 0) ∧ Boxed W (w.heap.size + 1) 3 (.int .i64 x.1.1) ∧ Boxed W (w.heap.size + 1 + 1) 23 (.int .i64 270) ∧ Below w.heap.size w W
theorem scrI_own (w : World) (B : Nat) (hB : w.heap.size ≤ B) : OwnFrom B (ScrI w) := by
  rintro pre W W' row ⟨ds, ao, cp, h1, h2, h3, h4, h5, h6, h7⟩ hg hr
  have hr' := fun r e => (hr r e).2
  exact ⟨ds, ao, cp, boxed_walked h1 hg hr', h2.walked hg hr', h3, boxed_walked h4 hg hr', boxed_walked h5 hg hr', boxed_walked h6 hg hr', h7.grown hg h7.size (fun r e => Nat.le_trans hB (hr r e).1)⟩
theorem scrX_own (w : World) (B : Nat) (hB : w.heap.size ≤ B) (c : Code) : OwnFrom B (ScrX w c) := by
  rintro pre W W' row ⟨hc, pre', x, ds, h1, h2, h3, h4, h5, h6, h7⟩ hg hr
  have hr' := fun r e => (hr r e).2
  exact ⟨hc, pre', x, ds, h1, h2, h3, boxed_walked h4 hg hr', boxed_walked h5 hg hr', boxed_walked h6 hg hr', h7.grown hg h7.size (fun r e => Nat.le_trans hB (hr r e).1)⟩
namespace Tr
theorem scrF_map (t : List UInt8) (ls : List (List UInt8)) : ∀ (acc os : List Opr) (r : List (List UInt8)), ls.map parse = os.map some → scrF t acc (ls ++ r) = scrF t (acc ++ os) r := by
  induction ls with
  | nil =>
    intro acc os r h
    have : os = [] := by cases os with
      | nil => rfl
      | cons o os => simp at h
    subst this; simp
  | cons x ls ih =>
    intro acc os r h
    cases os with
    | nil => simp at h
    | cons o os =>
      simp only [List.map_cons, List.cons.injEq] at h
      rw [List.cons_append]
      conv => lhs; unfold scrF
      rw [h.1]
      dsimp only
      rw [ih _ os r h.2]
      simp
theorem numb_snd (k : Nat) (l : List (List UInt8)) : (numb k l).map Prod.snd = l := by
  induction l generalizing k with
  | nil => rfl
  | cons x r ih => simp [numb, ih]
theorem numb_at : ∀ (k : Nat) (l : List (List UInt8)) (a : List (Nat × List UInt8)) (x : Nat × List UInt8) (b : List (Nat × List UInt8)), numb k l = a ++ x :: b → x.1 = k + a.length
  | k, [], a, x, b, h => by simp [numb] at h
  | k, y :: r, [], x, b, h => by simp [numb] at h; simp [← h.1]
  | k, y :: r, z :: a, x, b, h => by
    simp [numb] at h
    have := numb_at (k + 1) r a x b h.2
    simp; omega
end Tr
set_option maxRecDepth 100000 in
set_option maxHeartbeats 4000000 in
theorem script_any (t : List UInt8) (w : World) (hG : Gl w) (ht : t.length ≤ 65536) :
    Calls Tryd.prog 21 #[.string (S t)] w (ScrRes (Tr.script t) w) := by
  refine (callsIn_wide (n := 3)).1 ?_
  have hb : ¬ ((t.length : Int) > 65536) := by omega
  obtain ⟨i0, hi0, hz0, hz1, hz2⟩ := info_parts infoOp
  replace hG := Lib.hid hG
  refine callsIn_of_wp_marks Tryd.func21 rfl trivial ?_ rfl
  simp only [Tryd.ntmps21, List.size_toArray, List.length_cons, List.length_nil, Nat.reduceAdd, Nat.reduceSub, Array.replicate_succ, Array.replicate_zero, List.push_toArray, List.append_toArray, List.nil_append, List.cons_append]
  gi_wp2_with (refine ⟨trivial, ?_⟩; gi_at_call 55; refine (linesF_in 2 t _).mono ?_; rintro e w' ⟨rfl, rfl⟩)
  obtain ⟨W0, hW0⟩ : ∃ W0, (((((w.alloc (.cells #[.slice none 0 0] 42)).alloc (.cells #[.int .i64 0] 3)).alloc (.cells #[.int .i64 0] 23)).alloc (.cells #[.slice none 0 0] 42)).alloc (.cells #[.string (S t)] 9)) = W0 := ⟨_, rfl⟩
  have b0 : Boxed W0 w.heap.size 42 (.slice none 0 0) := by
    rw [← hW0]; exact ((((Boxed.new w 42 (.slice none 0 0)).alloc _).alloc _).alloc _).alloc _
  have b1 : Boxed W0 (w.heap.size + 1) 3 (.int .i64 0) := by
    have := (((Boxed.new (w.alloc (.cells #[.slice none 0 0] 42)) 3 (.int .i64 0)).alloc (.cells #[.int .i64 0] 23)).alloc (.cells #[.slice none 0 0] 42)).alloc (.cells #[.string (S t)] 9)
    rw [World.size_alloc, hW0] at this; exact this
  have b2 : Boxed W0 (w.heap.size + 1 + 1) 23 (.int .i64 0) := by
    have := ((Boxed.new ((w.alloc (.cells #[.slice none 0 0] 42)).alloc (.cells #[.int .i64 0] 3)) 23 (.int .i64 0)).alloc (.cells #[.slice none 0 0] 42)).alloc (.cells #[.string (S t)] 9)
    rw [World.size_alloc, World.size_alloc, hW0] at this; exact this
  have b3 : Boxed W0 (w.heap.size + 1 + 1 + 1) 42 (.slice none 0 0) := by
    have := (Boxed.new (((w.alloc (.cells #[.slice none 0 0] 42)).alloc (.cells #[.int .i64 0] 3)).alloc (.cells #[.int .i64 0] 23)) 42 (.slice none 0 0)).alloc (.cells #[.string (S t)] 9)
    rw [World.size_alloc, World.size_alloc, World.size_alloc, hW0] at this; exact this
  have b4 : Boxed W0 (w.heap.size + 1 + 1 + 1 + 1) 9 (.string (S t)) := by
    have := Boxed.new ((((w.alloc (.cells #[.slice none 0 0] 42)).alloc (.cells #[.int .i64 0] 3)).alloc (.cells #[.int .i64 0] 23)).alloc (.cells #[.slice none 0 0] 42)) 9 (.string (S t))
    rw [World.size_alloc, World.size_alloc, World.size_alloc, World.size_alloc, hW0] at this; exact this
  have hBl : Below w.heap.size w W0 := by
    rw [← hW0]
    exact (((((Below.refl _ w).alloc (Nat.le_refl _) _).alloc (by rw [World.size_alloc]; omega) _).alloc (by rw [World.size_alloc, World.size_alloc]; omega) _).alloc (by rw [World.size_alloc, World.size_alloc, World.size_alloc]; omega) _).alloc (by rw [World.size_alloc, World.size_alloc, World.size_alloc, World.size_alloc]; omega) _
  rw [hW0]
  clear hW0
  have hsz := hBl.size
  refine wpIn_rangeFunc_ownG rfl (by decide) (gf := 76) (lb := #[.pointer (some ⟨w.heap.size + 1 + 1 + 1 + 1, 0, none⟩)]) rfl trivial (enters_of Tryd.func76 (by kernel_rfl) rfl)
    (lines_stops (3 - 1) (by decide) (w.heap.size + 1 + 1 + 1 + 1) w hG.out t ht W0 b4.lt hBl b4.cell) belowK_t (belowK_b hsz) (Below.refl _ _) (fun _ => rfl)
    (ScrI w) (ScrX w) (scrI_own w _ hsz) (scrX_own w _ hsz)
    ⟨[], none, 0, b3, OwnO.nil _ _, rfl, b0, b1, b2, hBl⟩
    (fun x => { tmps := #[.string (S t), undef, .pointer (some ⟨w.heap.size, 0, none⟩), .pointer (some ⟨w.heap.size + 1, 0, none⟩), .pointer (some ⟨w.heap.size + 1 + 1, 0, none⟩), .pointer (some ⟨w.heap.size + 1 + 1 + 1, 0, none⟩),
      .int .i64 x.1.1, .string (S x.1.2), undef, undef, .string (S t), .int .i64 t.length, .bool false, .string (S t), .func (.func 76) #[] #[.pointer (some ⟨w.heap.size + 1 + 1 + 1 + 1, 0, none⟩)], .int .i64 x.1.1, .string (S x.1.2),
      undef, undef, undef, undef, undef, undef, undef, undef, undef, undef, undef, undef, undef, undef, undef, undef, undef, undef, undef, undef, undef, undef, undef, undef, undef], defers := [] }) ?assign ?body ?done ?stop
  case assign =>
    intro l x W K hK
    gi_wp2
    exact hK
  case body =>
    rintro l pre ⟨⟨n, x⟩, hxl⟩ W ⟨ds, ao, cp, h3, hO, hpm, h0, h1, h2, hB⟩ hlt
    dsimp only at hxl ⊢
    have hpa := parse_any x W (hG.out.below hB) (by omega)
    have hsW := hB.size
    have hdl : ds.length = pre.length := by have := congrArg List.length hpm; simpa using this.symm
    have hcap : ds.length ≤ 65536 := by have := Tr.lns_len t.length t (Nat.le_refl _); omega
    replace hG := Lib.hid hG
    replace hO := Lib.hid hO
    replace hpm := Lib.hid hpm
    replace hB := Lib.hid hB
    clear hlt hdl
    cases hp : Tr.parse x with
    | none =>
      rw [hp] at hpa
      replace hp := Lib.hid hp
      replace hpa := Lib.hid hpa
      gi_wp2_with (refine ⟨trivial, ?_⟩; gi_at_call 18; refine (CallsIn.inRound l (callsIn_wide.2 hpa.out)).mono ?_; rintro e w2 ⟨dv, rfl, hown, hb2⟩; (obtain ⟨ad, cp2, rfl⟩ := slice_form hown); (have g0 := boxed_below h0 hb2); (have g1 := boxed_below h1 hb2); (have g2 := boxed_below h2 hb2); (have k0 := fun o => (g0.alloc o).cell); (have k1 := fun o => (g1.alloc o).cell); (have k2 := fun o => (g2.alloc o).cell); (have m0 := fun o => (g0.alloc o).frozen); (have m1 := fun o => (g1.alloc o).frozen); (have m2 := fun o => (g2.alloc o).frozen))
      obtain ⟨p0, p1, p2⟩ := three_set (g0.alloc (.cells #[.int .i64 Tr.zero.kind, .string (S Tr.zero.path), .string (S Tr.zero.dest), .int .i64 Tr.zero.off, .int .i64 Tr.zero.len, .slice ad Tr.zero.data.length cp2] 44)) (g1.alloc _) (g2.alloc _) (.slice none 0 0) (.int .i64 n) (.int .i64 270)
      exact ⟨((((keepsOthers_below hb2).trans (KeepsOthers.alloc _ _)).trans (three_keeps _ _ _ _ _))).from _, rfl, pre, ⟨(n, x), hxl⟩, ds, rfl, hpm.out, hp.out, p0, p1, p2, three_below ((hB.out.trans (hb2.mono hsW)).alloc (by have := hb2.size; omega) _) (Nat.le_refl _) _ _ _⟩
    | some op =>
      rw [hp] at hpa
      obtain ⟨xk, xp, xt, xf, xn, xl⟩ := op
      unfold OpRes at hpa
      simp only [Option.getD_some, Option.isSome_some, if_true] at hpa
      replace hp := Lib.hid hp
      replace hpa := Lib.hid hpa
      gi_wp2_with (first
        | (refine ⟨trivial, ?_⟩; gi_at_call 18; refine (CallsIn.inRound l (callsIn_wide.2 hpa.out)).mono ?_; rintro e w2 ⟨dv, rfl, hown, hb2⟩; (obtain ⟨ad, cp2, rfl⟩ := slice_form hown); (have g3 := boxed_below h3 hb2); (have k3 := fun o => (g3.alloc o).cell); (have m3 := fun o => (g3.alloc o).frozen); (have hO2 := Lib.hid (hO.out.below hb2)); (have hap := Lib.hid (RdAp.of_far (row := (Value.slice ao ds.length cp).ownBlock) (Rd.of_own (enc := byteV) (xs := xl) hown) (far_own hown (Nat.le_refl _)) (fun g hg => (hO.out.own.lt g hg).2))); (have hs2 := hb2.size);
            (have hal2 := Lib.hid (((Below.refl w2.heap.size w2).alloc (Nat.le_refl _) (.cells #[.int .i64 xk, .string (S xp), .string (S xt), .int .i64 xf, .int .i64 xn, .slice ad xl.length cp2] 44)).alloc (by rw [World.size_alloc]; omega) (.cells #[.int .i64 xk, .string (S xp), .string (S xt), .int .i64 xf, .int .i64 xn, .slice ad xl.length cp2] 44)));
            (have hnb := Lib.hid (heap_alloc_new (w2.alloc (.cells #[.int .i64 xk, .string (S xp), .string (S xt), .int .i64 xf, .int .i64 xn, .slice ad xl.length cp2] 44)) (.cells #[.int .i64 xk, .string (S xp), .string (S xt), .int .i64 xf, .int .i64 xn, .slice ad xl.length cp2] 44))); replace hown := Lib.hid hown; replace hb2 := Lib.hid hb2)
        | (gi_at_builtin; refine wpListIn_append_own_at _ rfl _ _ 42 rfl w.heap.size 44 i0 (.agg #[.int .i64 0, .string ⟨#[]⟩, .string ⟨#[]⟩, .int .i64 0, .int .i64 0, .slice none 0 0]) 6 80 Tryd.underlying42 hi0 hz0 hz1 hz2 rfl (by decide) (.slice ao ds.length cp) ds.length (cellsO ds) rfl (hO2.out.below hal2.out).own ⟨w2.heap.size + 1, 0, none⟩ 1 1 [.int .i64 xk, .string (S xp), .string (S xt), .int .i64 xf, .int .i64 xn, .slice ad xl.length cp2] rfl rfl (World.news_of_block (by have := hnb.out; rwa [World.size_alloc] at this)) (by simp [Value.oneCell']) (by unfold maxLen; omega) (by omega) (by rw [World.size_alloc, World.size_alloc]; omega) ?_; intro v' w3 hown3 hgrow _ hat; (obtain ⟨vg, vc, rfl⟩ := ownsRow_succ hown3); (have q3 := ((g3.alloc (.cells #[.int .i64 xk, .string (S xp), .string (S xt), .int .i64 xf, .int .i64 xn, .slice ad xl.length cp2] 44)).alloc (.cells #[.int .i64 xk, .string (S xp), .string (S xt), .int .i64 xf, .int .i64 xn, .slice ad xl.length cp2] 44)).kept hgrow (Boxed.not_row ((g3.alloc (.cells #[.int .i64 xk, .string (S xp), .string (S xt), .int .i64 xf, .int .i64 xn, .slice ad xl.length cp2] 44)).alloc (.cells #[.int .i64 xk, .string (S xp), .string (S xt), .int .i64 xf, .int .i64 xn, .slice ad xl.length cp2] 44)) (by decide) (hO2.out.below hal2.out).own)); (have kk := q3.cell); (have mm := q3.frozen)))
      have hOw := hO2.out.below hal2.out
      have hP := OwnO.push (p := (⟨xk, xp, xt, xf, xn, xl⟩, .slice ad xl.length cp2)) hOw (RdAp.below hap.out hal2.out) hown3 hgrow (by rcases hat with h | h; exact .inl h.symm; exact .inr (by injection h))
      have hP2 := hP.boxSet q3 (by decide) (by simp) (.slice (some ⟨vg, 0, none⟩) (ds.length + 1) vc)
      have hW2 := hb2.out.trans (hal2.out.mono hs2)
      have hrow := fun {B : Nat} {t : TypeId} {u : Value} (g : Boxed w2 B t u) (hte : t ≠ 44) => ((g.alloc (.cells #[.int .i64 xk, .string (S xp), .string (S xt), .int .i64 xf, .int .i64 xn, .slice ad xl.length cp2] 44)).alloc (.cells #[.int .i64 xk, .string (S xp), .string (S xt), .int .i64 xf, .int .i64 xn, .slice ad xl.length cp2] 44)).kept hgrow (Boxed.not_row ((g.alloc (.cells #[.int .i64 xk, .string (S xp), .string (S xt), .int .i64 xf, .int .i64 xn, .slice ad xl.length cp2] 44)).alloc (.cells #[.int .i64 xk, .string (S xp), .string (S xt), .int .i64 xf, .int .i64 xn, .slice ad xl.length cp2] 44)) hte hOw.own)
      have q0 := hrow (boxed_below h0 hb2.out) (by decide)
      have q1 := hrow (boxed_below h1 hb2.out) (by decide)
      have q2 := hrow (boxed_below h2 hb2.out) (by decide)
      have hBn : Below w.heap.size W (w3.setCell ⟨w.heap.size + 1 + 1 + 1, 0, none⟩ (.slice (some ⟨vg, 0, none⟩) (ds.length + 1) vc)) :=
        ((hW2.mono hsW).grown hgrow (by rw [World.size_alloc, World.size_alloc]; omega) (fun g hg => (hOw.own.lt g hg).1)).setCell (p := ⟨w.heap.size + 1 + 1 + 1, 0, none⟩) (by show w.heap.size ≤ w.heap.size + 1 + 1 + 1; omega) _
      refine ⟨(((keepsOthers_below hW2).trans (own_push_cells hOw.own hgrow)).trans (KeepsOthers.setCell _ _ _)).from _, hBn, ds ++ [(⟨xk, xp, xt, xf, xn, xl⟩, .slice ad xl.length cp2)], some ⟨vg, 0, none⟩, vc, ?_, ?_, ?_, q0.other (by omega) _, q1.other (by omega) _, q2.other (by omega) _, hB.out.trans hBn⟩
      · rw [List.length_append]; exact q3.set _
      · rw [List.length_append]; exact hP2
      · rw [List.map_append, List.map_append, hpm.out]
        show _ ++ [Tr.parse x] = _
        rw [hp.out]; rfl
  case done =>
    rintro D ys W hD hys ⟨ds, ao, cp, h3, hO, hpm, h0, h1, h2, hB⟩ hK
    have hls : (Tr.lns t).map Tr.parse = (ds.map Prod.fst).map some := by
      have e : ys.map (fun x => Tr.parse x.1.2) = (((ys.map Subtype.val).map Prod.snd)).map Tr.parse := by rw [List.map_map, List.map_map]; rfl
      rw [hys, Tr.numb_snd] at e
      rw [← e, hpm, List.map_map]; rfl
    have hsc : Tr.script t = Tr.scrF t (ds.map Prod.fst) [] := by
      unfold Tr.script
      rw [if_neg (by omega)]
      have := Tr.scrF_map t (Tr.lns t) [] (ds.map Prod.fst) [] hls
      rw [List.append_nil] at this
      rw [this]; rfl
    rw [Tr.scrF, List.length_map] at hsc
    replace hO := Lib.hid hO
    replace hB := Lib.hid hB
    have k3 := h3.cell
    have k0 := h0.cell
    have k1 := h1.cell
    have k2 := h2.cell
    have m0 := h0.frozen
    have m1 := h1.frozen
    have m2 := h2.frozen
    by_cases hc : t ≠ [] ∧ Tr.nl t = false
    · rw [if_pos hc] at hsc
      obtain ⟨hte, hnl⟩ := hc
      have hhs := fun W => Tryd.strings_HasSuffix (S t) ⟨#[10]⟩ W (by rw [S_size]; omega)
      rw [S_data, show Lib.hasSuffix t (ByteArray.mk #[10]).data.toList = false from hnl] at hhs
      replace hsc := Lib.hid hsc
      have e1 : (t == []) = false := by simpa using hte
      have e2 : (t != []) = true := by simpa using hte
      have e3 : t.isEmpty = false := by cases t with
        | nil => exact absurd rfl hte
        | cons => rfl
      clear hls hpm hys hnl
      gi_wp2_with (refine ⟨trivial, ?_⟩; gi_at_call 56; refine (callsIn_wide.2 (hhs _)).mono ?_; rintro e w' ⟨rfl, rfl⟩)
      gi_region
      gi_wp2
      obtain ⟨p0, p1, p2⟩ := three_set h0 h1 h2 (.slice none 0 0) (.int .i64 ds.length) (.int .i64 270)
      have hK3 := (three_keeps w' w.heap.size (.slice none 0 0) (.int .i64 ds.length) (.int .i64 270)).same D _ hK rfl
      have hB3 := three_below hB.out (Nat.le_refl _) (.slice none 0 0) (.int .i64 ds.length) (.int .i64 270)
      generalize (((w'.setCell ⟨w.heap.size, 0, none⟩ (.slice none 0 0)).setCell ⟨w.heap.size + 1, 0, none⟩ (.int .i64 ds.length)).setCell ⟨w.heap.size + 1 + 1, 0, none⟩ (.int .i64 270)) = W3 at p0 p1 p2 hK3 hB3 ⊢
      refine ⟨by simp, .inl ⟨_, _, rfl, run_takeDeferred (show (W3.drew).heap[D]? = _ from hK3), ?_⟩⟩
      have q0 := cell_kept (W := W3.drew) p0.cell (grownBy_putObj' _ D (.deferred none)) (fun r e => by cases e; exact ⟨_, hK3, rfl⟩)
      have q1 := cell_kept (W := W3.drew) p1.cell (grownBy_putObj' _ D (.deferred none)) (fun r e => by cases e; exact ⟨_, hK3, rfl⟩)
      have q2 := cell_kept (W := W3.drew) p2.cell (grownBy_putObj' _ D (.deferred none)) (fun r e => by cases e; exact ⟨_, hK3, rfl⟩)
      refine ⟨.tuple #[.slice none 0 0, .int .i64 ds.length, .int .i64 270], ?_, scrRes_mk hsc.out rfl (RdO.nil _) (hB3.drew.trans (belowK_b (w := w) (Nat.le_refl _) W3.drew D _ _ (by omega) hK3 rfl rfl))⟩
      simp [results, Tryd.f21, go_sem, q0, q1, q2]
    · rw [if_neg hc] at hsc
      replace hsc := Lib.hid hsc
      obtain ⟨q, hq, hq2⟩ : ∃ q : Bool, q = Tr.nl t ∧ (t ≠ [] → q = true) := ⟨_, rfl, fun h => by
        cases hn : Tr.nl t with
        | true => rfl
        | false => exact absurd ⟨h, hn⟩ hc⟩
      have hhs := fun W => Tryd.strings_HasSuffix (S t) ⟨#[10]⟩ W (by rw [S_size]; omega)
      rw [S_data, show Lib.hasSuffix t (ByteArray.mk #[10]).data.toList = q from hq.symm] at hhs
      have hmain : (t == []) = true ∧ (t != []) = false ∧ t.isEmpty = true ∨ (t == []) = false ∧ (t != []) = true ∧ t.isEmpty = false ∧ q = true := by
        by_cases ht0 : t = []
        · subst ht0; exact .inl ⟨rfl, rfl, rfl⟩
        · exact .inr ⟨by simpa using ht0, by simpa using ht0, by simpa using ht0, hq2 ht0⟩
      clear hc hq hq2 hls hpm hys
      rcases hmain with ⟨e1, e2, e3⟩ | ⟨e1, e2, e3, rfl⟩
      · gi_wp2_with fail
        refine ⟨trivial, ?_⟩
        gi_wp2
        gi_region
        gi_wp2
        obtain ⟨p0, p1, p2⟩ := three_set h0 h1 h2 (.slice ao ds.length cp) (.int .i64 ds.length) (.int .i64 0)
        have hK3 := (three_keeps W w.heap.size (.slice ao ds.length cp) (.int .i64 ds.length) (.int .i64 0)).same D _ hK rfl
        have hB3 := three_below hB.out (Nat.le_refl _) (.slice ao ds.length cp) (.int .i64 ds.length) (.int .i64 0)
        have hO3 := ((hO.out.boxSet h0 (by decide) (by simp) (.slice ao ds.length cp)).boxSet (h1.other (by omega) _) (by decide) (by simp) (.int .i64 ds.length)).boxSet ((h2.other (by omega) _).other (by omega) _) (by decide) (by simp) (.int .i64 0)
        generalize (((W.setCell ⟨w.heap.size, 0, none⟩ (.slice ao ds.length cp)).setCell ⟨w.heap.size + 1, 0, none⟩ (.int .i64 ds.length)).setCell ⟨w.heap.size + 1 + 1, 0, none⟩ (.int .i64 0)) = W3 at p0 p1 p2 hK3 hB3 hO3 ⊢
        refine ⟨by simp, .inl ⟨_, _, rfl, run_takeDeferred (show (W3.drew).heap[D]? = _ from hK3), ?_⟩⟩
        have q0 := cell_kept (W := W3.drew) p0.cell (grownBy_putObj' _ D (.deferred none)) (fun r e => by cases e; exact ⟨_, hK3, rfl⟩)
        have q1 := cell_kept (W := W3.drew) p1.cell (grownBy_putObj' _ D (.deferred none)) (fun r e => by cases e; exact ⟨_, hK3, rfl⟩)
        have q2 := cell_kept (W := W3.drew) p2.cell (grownBy_putObj' _ D (.deferred none)) (fun r e => by cases e; exact ⟨_, hK3, rfl⟩)
        have hO4 : OwnO (W3.drew.putObj D (.deferred none)) w.heap.size (.slice ao ds.length cp) ds := OwnO.walked (W := W3.drew) (B := w.heap.size) ⟨hO3.own, hO3.data⟩ (grownBy_putObj' _ D (.deferred none)) (fun r e => by cases e; exact ⟨_, hK3, rfl⟩)
        refine ⟨.tuple #[.slice ao ds.length cp, .int .i64 ds.length, .int .i64 0], ?_, scrRes_mk hsc.out rfl hO4.rd (hB3.drew.trans (belowK_b (w := w) (Nat.le_refl _) W3.drew D _ _ (by omega) hK3 rfl rfl))⟩
        simp [results, Tryd.f21, go_sem, q0, q1, q2]
      · gi_wp2_with (refine ⟨trivial, ?_⟩; gi_at_call 56; refine (callsIn_wide.2 (hhs _)).mono ?_; rintro e w' ⟨rfl, rfl⟩)
        gi_region
        gi_wp2
        obtain ⟨p0, p1, p2⟩ := three_set h0 h1 h2 (.slice ao ds.length cp) (.int .i64 ds.length) (.int .i64 0)
        have hK3 := (three_keeps w' w.heap.size (.slice ao ds.length cp) (.int .i64 ds.length) (.int .i64 0)).same D _ hK rfl
        have hB3 := three_below hB.out (Nat.le_refl _) (.slice ao ds.length cp) (.int .i64 ds.length) (.int .i64 0)
        have hO3 := ((hO.out.boxSet h0 (by decide) (by simp) (.slice ao ds.length cp)).boxSet (h1.other (by omega) _) (by decide) (by simp) (.int .i64 ds.length)).boxSet ((h2.other (by omega) _).other (by omega) _) (by decide) (by simp) (.int .i64 0)
        generalize (((w'.setCell ⟨w.heap.size, 0, none⟩ (.slice ao ds.length cp)).setCell ⟨w.heap.size + 1, 0, none⟩ (.int .i64 ds.length)).setCell ⟨w.heap.size + 1 + 1, 0, none⟩ (.int .i64 0)) = W3 at p0 p1 p2 hK3 hB3 hO3 ⊢
        refine ⟨by simp, .inl ⟨_, _, rfl, run_takeDeferred (show (W3.drew).heap[D]? = _ from hK3), ?_⟩⟩
        have q0 := cell_kept (W := W3.drew) p0.cell (grownBy_putObj' _ D (.deferred none)) (fun r e => by cases e; exact ⟨_, hK3, rfl⟩)
        have q1 := cell_kept (W := W3.drew) p1.cell (grownBy_putObj' _ D (.deferred none)) (fun r e => by cases e; exact ⟨_, hK3, rfl⟩)
        have q2 := cell_kept (W := W3.drew) p2.cell (grownBy_putObj' _ D (.deferred none)) (fun r e => by cases e; exact ⟨_, hK3, rfl⟩)
        have hO4 : OwnO (W3.drew.putObj D (.deferred none)) w.heap.size (.slice ao ds.length cp) ds := OwnO.walked (W := W3.drew) (B := w.heap.size) ⟨hO3.own, hO3.data⟩ (grownBy_putObj' _ D (.deferred none)) (fun r e => by cases e; exact ⟨_, hK3, rfl⟩)
        refine ⟨.tuple #[.slice ao ds.length cp, .int .i64 ds.length, .int .i64 0], ?_, scrRes_mk hsc.out rfl hO4.rd (hB3.drew.trans (belowK_b (w := w) (Nat.le_refl _) W3.drew D _ _ (by omega) hK3 rfl rfl))⟩
        simp [results, Tryd.f21, go_sem, q0, q1, q2]
  case stop =>
    rintro D c pre W hD hp ⟨rfl, pre', x, ds, rfl, hpm, hpx, h0, h1, h2, hB⟩ hK
    have hsc : Tr.script t = ([], (x.1.1 : Int), 270) := by
      obtain ⟨b, hb⟩ := hp
      rw [List.map_append, List.map_cons, List.map_nil, List.append_assoc] at hb
      have hn := Tr.numb_at 1 (Tr.lns t) (pre'.map Subtype.val) x.1 b (by rw [← hb]; rfl)
      have hl : Tr.lns t = (pre'.map Subtype.val).map Prod.snd ++ x.1.2 :: b.map Prod.snd := by
        rw [← Tr.numb_snd 1 (Tr.lns t), ← hb]; simp
      have hm : ((pre'.map Subtype.val).map Prod.snd).map Tr.parse = (ds.map Prod.fst).map some := by
        rw [List.map_map, List.map_map, List.map_map]; exact hpm
      unfold Tr.script
      rw [if_neg (by omega), hl, Tr.scrF_map t _ [] (ds.map Prod.fst) _ hm, Tr.scrF, hpx]
      have hdl : ds.length = pre'.length := by have := congrArg List.length hpm; simpa using this.symm
      rw [hn]
      simp [hdl]
      omega
    have k0 := cell_kept h0.cell (grownBy_putObj' _ D (.deferred none)) (fun r e => by cases e; exact ⟨_, hK, rfl⟩)
    have k1 := cell_kept h1.cell (grownBy_putObj' _ D (.deferred none)) (fun r e => by cases e; exact ⟨_, hK, rfl⟩)
    have k2 := cell_kept h2.cell (grownBy_putObj' _ D (.deferred none)) (fun r e => by cases e; exact ⟨_, hK, rfl⟩)
    gi_wp2
    refine ⟨by simp, .inl ⟨_, _, rfl, run_takeDeferred hK, ?_⟩⟩
    refine ⟨.tuple #[.slice none 0 0, .int .i64 x.1.1, .int .i64 270], ?_, scrRes_mk hsc rfl (RdO.nil _) (hB.trans (belowK_b (w := w) (Nat.le_refl _) W D _ _ (by omega) hK rfl rfl))⟩
    simp [results, Tryd.f21, go_sem, k0, k1, k2]
end Go.Proofs.YtpoongljokbgcaaDoor
