/- dirent.Entries; the law's told. -/
import Derived.Test.YtmlgjmcenjbbeaaU
import Derived.Maps.AppendAt
import Derived.Maps.OwnIn
import Derived.BigRegionIn
namespace Go.Proofs.Ytmlgjmcenjbbeaa
open Go.RowKit Go.Shelf
attribute [local go_sem] Oper.semAt_some
theorem boxOwn_boxed {W : World} {B : Nat} {t : TypeId} {v : Value} (h : Boxed W B t v) : boxOwn B W = v.ownBlock := by
  unfold boxOwn; rw [h.cell]; rfl
/-- dirent.Entries hands back a value that gives the entries, or a part of them where a round has said 'no more'. -/
theorem ents_stops (n : Nat) (hn : 1 ≤ n) (Bl Bx : Nat) (rs : List Rec) (la : Option Addr) (lc : Nat) (h32 : rs.length ≤ 32) (w : World) (hBl : Bl < w.heap.size) (hBx : Bx < w.heap.size) (hc : w.cell? ⟨Bl, 0, none⟩ = some (.slice la rs.length lc))
    (hrd : RdR w (.slice la rs.length lc) rs) (hla : ∀ b o, la = some ⟨b, o, none⟩ → b ≠ Bx ∧ boxOwn Bx w ≠ some b ∧ b < w.heap.size) :
    SeqStopsK Fence.wide n Try.prog 44 #[.pointer (some ⟨Bl, 0, none⟩)] (fun x : Ent => #[entV x]) (KeepsBox Bx) (fun ys => ys = Nm.entsOf rs) (fun pre => pre <+: Nm.entsOf rs) 600 w := fun
  l J Jx W hW hJ _ hY h0J => ents1_in n hn l Bl Bx w rs la lc h32 hBx J Jx (fun pre W W' h hb => hJ pre W W' none h (grown_below hb) (fun r e => by cases e)) hY W ((hW.cell (p := ⟨Bl, 0, none⟩) hBl).trans hc) hW (hrd.below hW) (fun b o e => ⟨(hla b o e).1, by rw [boxOwn_of (hW.block Bx hBx)]; exact (hla b o e).2.1⟩) (fun b o e => (hla b o e).2.2) h0J
/-- An iterator over records that lie in memory. -/
def SeqBox (rs : List Rec) (w : World) (e : Ending) (w' : World) : Prop :=
  ∃ Bl la lc, e = .returned (.func (.func 44) #[] #[.pointer (some ⟨Bl, 0, none⟩)]) ∧ w.heap.size ≤ Bl ∧ Box w' Bl 64 #[.slice la rs.length lc] ∧ RdR w' (.slice la rs.length lc) rs ∧ (∀ b o, la = some ⟨b, o, none⟩ → w.heap.size ≤ b ∧ b < w'.heap.size) ∧ Below w.heap.size w w'
theorem own_addr {W : World} {B : Nat} {e : TypeId} {size n m lc : Nat} {la : Option Addr} {xs : List Value} (h : W.ownsRow B e size (.slice la m lc) n xs) (b o : Nat) (hb : la = some ⟨b, o, none⟩) : B ≤ b ∧ b < W.heap.size :=
  h.lt b (by rw [hb]; rfl)
set_option maxRecDepth 100000 in
theorem entries_any (b : List UInt8) (v : Value) (w : World) (hr : RdB w v b) : Calls Try.prog 24 #[v] w (SeqBox ((Nm.recs b).getD []) w) := by
  have h1 := records_any b v w hr
  obtain ⟨o, ho⟩ : ∃ o, Nm.recs b = o := ⟨_, rfl⟩
  rw [ho] at h1 ⊢
  clear ho hr
  replace h1 := Lib.hid h1
  obtain ⟨rs, hrs⟩ : ∃ rs, o.getD [] = rs := ⟨_, rfl⟩
  have hfin : ∀ (u : Value) (w1 : World), w1.ownsRow w.heap.size 69 5 u rs.length (rs.flatMap recL) → Below w.heap.size w w1 → SeqBox rs w (.returned (.func (.func 44) #[] #[.pointer (some ⟨w1.heap.size, 0, none⟩)])) (w1.alloc (.cells #[u] 64)) := fun u w1 hown hb => by
    have hrd := RdC.of_own recL_len hown
    obtain ⟨la, lc, rfl⟩ := hrd.len
    have hal := (Below.refl w1.heap.size w1).alloc (Nat.le_refl _) (.cells #[.slice la rs.length lc] 64)
    exact ⟨w1.heap.size, la, lc, rfl, hb.size, Box.new _ _ _, hrd.below hal, fun b o e => by have := own_addr hown b o e; rw [World.size_alloc]; omega, hb.alloc hb.size _⟩
  replace hfin := Lib.hid hfin
  unfold RecsRes at h1
  rw [hrs] at h1 ⊢
  clear hrs
  go_enter Try.func24, Try.ntmps24
  go_wp2_with (go_at_call 39; refine h1.out.mono ?_; rintro e w1 ⟨u, rfl, hown, hb⟩; obtain ⟨la, lc, hu⟩ := (RdC.of_own recL_len hown).len; subst hu)
  go_ret
  exact hfin.out _ w1 hown hb
theorem boxed_walked {W W' : World} {B : Nat} {t : TypeId} {v : Value} {row : Option Nat} (h : Boxed W B t v) (hg : W.grownBy W' row) (hr : ∀ r, row = some r → ∃ o : Obj, W.heap[r]? = some o ∧ o.isCells = false) : Boxed W' B t v :=
  h.kept hg fun e => by
    obtain ⟨o, ho, hc⟩ := hr B e.symm
    rw [show W.heap[B]? = _ from h] at ho; cases ho; cases hc
theorem own_walked {W W' : World} {B : Nat} {e : TypeId} {size n : Nat} {v : Value} {xs : List Value} {row : Option Nat} (h : W.ownsRow B e size v n xs) (hg : W.grownBy W' row) (hr : ∀ r, row = some r → ∃ o : Obj, W.heap[r]? = some o ∧ o.isCells = false) : W'.ownsRow B e size v n xs := by
  refine h.kept hg ?_
  rcases h.2 with ⟨rfl, _⟩ | ⟨g, cap, cur, rfl, _, hgb, _⟩
  · exact .inl rfl
  · refine .inr fun e' => ?_
    obtain ⟨_, ho, hc⟩ := hr g (by simpa [Value.ownBlock] using e'.symm)
    rw [hgb] at ho; cases ho; cases hc
/-- Cells that grow by an append, and the box that takes the new slice. -/
theorem keepsBox_push {W w1 : World} {Bx : Nat} {t : TypeId} {u v' : Value} {o : Obj} (hb : Boxed W Bx t u) (hb1 : Boxed w1 Bx t u) (hg : (W.alloc o).grownBy w1 u.ownBlock) (hv : v'.ownBlock = u.ownBlock ∨ v'.ownBlock = some (W.alloc o).heap.size) :
    KeepsBox Bx W (w1.setCell ⟨Bx, 0, none⟩ v') := by
  have hs : W.heap.size + 1 ≤ w1.heap.size := by have := hg.size; rw [World.size_alloc] at this; exact this
  refine ⟨by simp [World.setCell]; omega, ?_, fun k o' hk _ hne how => ?_⟩
  · rw [boxOwn_boxed (hb1.set v'), boxOwn_boxed hb]
    rcases hv with e | e
    · exact .inl e
    · refine .inr fun g hgg => ?_
      rw [e] at hgg; cases hgg
      rw [World.size_alloc]; omega
  · rw [boxOwn_boxed hb] at how
    have hlt : k < W.heap.size := (Array.getElem?_eq_some_iff.1 hk).1
    rw [Below.heap_setCell w1 _ v' k hne, hg.block k (by rw [World.size_alloc]; omega) (fun e => how e.symm), Below.heap_alloc W o k hlt]
    exact hk
theorem box_walked {W W' : World} {B : Nat} {t : TypeId} {vs : Array Value} {row : Option Nat} (h : Box W B t vs) (hg : W.grownBy W' row) (hr : ∀ r, row = some r → ∃ o : Obj, W.heap[r]? = some o ∧ o.isCells = false) : Box W' B t vs :=
  h.grown hg fun e => by
    obtain ⟨o, ho, hc⟩ := hr B e.symm
    rw [show W.heap[B]? = _ from h] at ho; cases ho; cases hc
theorem keepsFrom_push {W w1 : World} {B Bx base e size n : Nat} {u v' : Value} {xs : List Value} {o : Obj} (hown : W.ownsRow base e size u n xs) (hg : (W.alloc o).grownBy w1 u.ownBlock) (hB : Bx < B) : KeepsFrom B W (w1.setCell ⟨Bx, 0, none⟩ v') := by
  have hs : W.heap.size + 1 ≤ w1.heap.size := by have := hg.size; rw [World.size_alloc] at this; exact this
  refine ⟨by simp [World.setCell]; omega, fun k o' hk ho hc => ?_⟩
  have hlt : k < W.heap.size := (Array.getElem?_eq_some_iff.1 ho).1
  have hne : some k ≠ u.ownBlock := by
    intro e'
    rcases hown.2 with ⟨rfl, _⟩ | ⟨g, cap, cur, rfl, _, hgb, _⟩
    · simp [Value.ownBlock] at e'
    · simp [Value.ownBlock] at e'
      subst e'
      rw [hgb] at ho; cases ho; cases hc
  rw [Below.heap_setCell w1 _ v' k (by show k ≠ Bx; omega), hg.block k (by rw [World.size_alloc]; omega) hne, Below.heap_alloc W o k hlt]
  exact ho
/-- Between two entries: those so far. -/
def ToI (w : World) (m : Nat) (pre : List Ent) (W : World) : Prop :=
  ∃ (ao : Option Addr) (cp : Nat), Boxed W (w.heap.size + 1) 27 (.slice ao pre.length cp) ∧ W.ownsRow (w.heap.size + 2) 24 3 (.slice ao pre.length cp) pre.length (pre.flatMap entL) ∧ Boxed W w.heap.size 3 (.int .i64 m) ∧ pre.length ≤ m ∧ Below w.heap.size w W ∧ w.heap.size + 2 ≤ W.heap.size
/-- As many as may be: no more. -/
def ToX (w : World) (m : Nat) (c : Code) (pre : List Ent) (W : World) : Prop :=
  c = .exit 0 ∧ ∃ (L : List Ent) (ao : Option Addr) (cp : Nat), L <+: pre ∧ L.length = m ∧ Boxed W (w.heap.size + 1) 27 (.slice ao L.length cp) ∧ W.ownsRow (w.heap.size + 2) 24 3 (.slice ao L.length cp) L.length (L.flatMap entL) ∧ Below w.heap.size w W
theorem toI_own (w : World) (m : Nat) (B : Nat) (hB : w.heap.size ≤ B) : OwnFrom B (ToI w m) := by
  rintro pre W W' row ⟨ao, cp, h1, h2, h3, h4, h7, h8⟩ hg hr
  have hr' := fun r e => (hr r e).2
  exact ⟨ao, cp, boxed_walked h1 hg hr', own_walked h2 hg hr', boxed_walked h3 hg hr', h4, h7.grown hg h7.size (fun r e => Nat.le_trans hB (hr r e).1), Nat.le_trans h8 hg.size⟩
theorem toX_own (w : World) (m : Nat) (c : Code) (B : Nat) (hB : w.heap.size ≤ B) : OwnFrom B (ToX w m c) := by
  rintro pre W W' row ⟨h0, L, ao, cp, h1, h2, h3, h4, h7⟩ hg hr
  have hr' := fun r e => (hr r e).2
  exact ⟨h0, L, ao, cp, h1, h2, boxed_walked h3 hg hr', own_walked h4 hg hr', h7.grown hg h7.size (fun r e => Nat.le_trans hB (hr r e).1)⟩
set_option maxRecDepth 100000 in
set_option maxHeartbeats 4000000 in
theorem told_any (Bl : Nat) (rs : List Rec) (la : Option Addr) (lc m : Nat) (h32 : rs.length ≤ 32) (w : World) (hbx : Box w Bl 64 #[.slice la rs.length lc]) (hrd : RdR w (.slice la rs.length lc) rs) (hla : ∀ b o, la = some ⟨b, o, none⟩ → b < w.heap.size) (hm : m ≤ 1000000) :
    Calls Try.prog 23 #[.func (.func 44) #[] #[.pointer (some ⟨Bl, 0, none⟩)], .int .i64 m] w (EntsRes ((Nm.entsOf rs).take m) w) := by
  refine (callsIn_wide (n := 3)).1 ?_
  obtain ⟨i0, hi0, hz0, hz1, hz2⟩ := info_parts infoEnt
  have hfn : ∀ (a : Addr) (W : World), (binOp .eql 40 (.func (.func 44) #[] #[.pointer (some a)]) .nilFunc).run Try.prog W = .ok (.bool false) W := fun _ _ => by kernel_rfl
  obtain ⟨W0, hW0⟩ : ∃ W0, ((w.alloc (.cells #[.int .i64 m] 3)).alloc (.cells #[.slice none 0 0] 27)) = W0 := ⟨_, rfl⟩
  refine callsIn_of_wp_marks Try.func23 rfl trivial ?_ rfl
  simp only [Try.ntmps23, List.size_toArray, List.length_cons, List.length_nil, Nat.reduceAdd, Nat.reduceSub, Array.replicate_succ, Array.replicate_zero, List.push_toArray, List.append_toArray, List.nil_append, List.cons_append]
  have b0 : Boxed W0 w.heap.size 3 (.int .i64 m) := by
    rw [← hW0]; exact (Boxed.new w 3 (.int .i64 m)).alloc _
  have b1 : Boxed W0 (w.heap.size + 1) 27 (.slice none 0 0) := by
    have := (Boxed.new (w.alloc (.cells #[.int .i64 m] 3)) 27 (.slice none 0 0))
    rw [World.size_alloc, hW0] at this; exact this
  have hBl : Below w.heap.size w W0 := by
    rw [← hW0]
    exact ((Below.refl _ w).alloc (Nat.le_refl _) _).alloc (by rw [World.size_alloc]; omega) _
  gi_wp2
  clear hW0
  have hsz := hBl.size
  have hsz2 : w.heap.size + 2 ≤ W0.heap.size := b1.lt
  have hlb := hbx.lt
  refine wpIn_rangeFunc_ownH rfl (by decide) (gf := 44) (lb := #[.pointer (some ⟨Bl, 0, none⟩)]) rfl trivial (enters_of Try.func44 (by kernel_rfl) rfl)
    (ents_stops (3 - 1) (by decide) Bl (w.heap.size + 1) rs la lc h32 W0 (by omega) b1.lt ((hbx.below hBl).cell 0) (hrd.below hBl) (fun b o e => ⟨by have := hla b o e; omega, by rw [boxOwn_boxed b1]; simp [Value.ownBlock], by have := hla b o e; omega⟩)) (fun h k => KeepsBox.trans h k) (fun W l o o' hl h1 h2 _ => KeepsBox.put h1 h2 (by omega)) (Below.refl _ _) (fun _ => rfl)
    (ToI w m) (ToX w m) (toI_own w m _ hsz) (fun c => toX_own w m c _ hsz)
    ⟨none, 0, b1, World.ownsRow_nil _ _ _ _, b0, Nat.zero_le _, hBl, hsz2⟩
    (fun x a' W => ∃ Be, Box W Be 24 #[.string (S x.name), .int .i64 x.ino, .int .i64 x.kind] ∧ w.heap.size + 2 ≤ Be ∧ a' = { tmps := #[.func (.func 44) #[] #[.pointer (some ⟨Bl, 0, none⟩)], .int .i64 m, undef, .pointer (some ⟨w.heap.size, 0, none⟩), .slice none 0 0, .pointer (some ⟨w.heap.size + 1, 0, none⟩), .pointer (some ⟨Be, 0, none⟩), .func (.func 44) #[] #[.pointer (some ⟨Bl, 0, none⟩)], .bool false, .func (.func 44) #[] #[.pointer (some ⟨Bl, 0, none⟩)], entV x, undef, undef, undef, undef, undef, undef, undef, undef, undef], defers := [] })
    ?ax ?assign ?body ?done ?stop
  case ax =>
    rintro x a' _ W W' row ⟨Be, h1, h2, h3⟩ hg hr
    exact ⟨Be, box_walked h1 hg (fun r e => (hr r e).2), h2, h3⟩
  case assign =>
    rintro l pre x W K hI hK
    obtain ⟨xn, xi, xk⟩ := x
    unfold entV
    dsimp only
    gi_wp2
    have hI' := hI
    obtain ⟨ao, cp, g1, _, _, _, _, g6⟩ := hI'
    exact hK _ _ (KeepsFrom.of_grownBy (World.grownBy_alloc W _ none) (fun j e => by cases e)) (below_keepsBox ((Below.refl _ _).alloc (Nat.le_refl _) _) g1.lt) ((toI_own w m w.heap.size (Nat.le_refl _)).alloc _ hI) ⟨W.heap.size, Box.new _ _ _, g6, rfl⟩
  case body =>
    rintro l pre x a' W hl _ ⟨ao, cp, h1, hown, h3, h4, hB, h6⟩ ⟨Be, he, hbe, rfl⟩ hlt
    obtain ⟨xn, xi, xk⟩ := x
    dsimp only at he
    have hsW := hB.size
    have k1 := h1.cell
    have f1 := h1.frozen
    have k3 := h3.cell
    have d0 := he.get 0 _ rfl
    have d1 := he.get 1 _ rfl
    have d2 := he.get 2 _ rfl
    by_cases hmx : pre.length = m
    · have t1 : ((pre.length : Int) ≥ (m : Int)) := by omega
      replace hown := Lib.hid hown
      replace hB := Lib.hid hB
      replace hmx := Lib.hid hmx
      gi_wp2
      exact ⟨KeepsFrom.refl _ _, rfl, pre, ao, cp, List.prefix_append _ _, hmx.out, h1, hown.out, hB.out⟩
    · have t1 : ¬ ((pre.length : Int) ≥ (m : Int)) := by omega
      have hml : pre.length + 1 ≤ m := by omega
      have hfin : ∀ (W' : World) (vg vc : Nat), Boxed W' (w.heap.size + 1) 27 (.slice (some ⟨vg, 0, none⟩) (pre.length + 1) vc) → W'.ownsRow (w.heap.size + 2) 24 3 (.slice (some ⟨vg, 0, none⟩) (pre.length + 1) vc) (pre.length + 1) (pre.flatMap entL ++ [.string (S xn), .int .i64 xi, .int .i64 xk]) →
          Boxed W' w.heap.size 3 (.int .i64 m) → Below w.heap.size w W' → w.heap.size + 2 ≤ W'.heap.size → ToI w m (pre ++ [⟨xn, xi, xk⟩]) W' := by
        intro W' vg vc g1 g2 g3 g4 g5
        refine ⟨some ⟨vg, 0, none⟩, vc, by rw [List.length_append]; exact g1, ?_, g3, by rw [List.length_append]; exact hml, g4, g5⟩
        rw [List.length_append, List.flatMap_append]; simpa [entL] using g2
      replace hfin := Lib.hid hfin
      clear hmx
      gi_wp2_with (gi_at_builtin; refine Hid.out ?_)
      refine Lib.hid ?_
      refine wpListIn_append_own_at (w := _) rfl _ _ 27 rfl (w.heap.size + 2) 24 i0 (.agg #[.string ⟨#[]⟩, .int .i64 0, .int .i64 0]) 3 32 Try.underlying27 hi0 hz0 hz1 hz2 rfl (by decide) _ _ _ rfl (hown.alloc _) ⟨W.heap.size, 0, none⟩ 1 1 [.string (S xn), .int .i64 xi, .int .i64 xk] rfl rfl (World.news_of_block (heap_alloc_new W (.cells #[.string (S xn), .int .i64 xi, .int .i64 xk] 24))) (by simp [Value.oneCell']) (by unfold maxLen; omega) (by omega) (by simp; omega) ?_
      intro v' w1 hown' hgrow _ hat
      obtain ⟨vg, vc, rfl⟩ := ownsRow_succ hown'
      have hne : ∀ b, b < w.heap.size + 2 → some b ≠ (Value.slice ao pre.length cp).ownBlock := fun b hb e => by have := (hown.lt b e.symm).1; omega
      have hv1 := (h1.alloc (.cells #[.string (S xn), .int .i64 xi, .int .i64 xk] 24)).kept hgrow (hne _ (by omega))
      have hv3 := (h3.alloc (.cells #[.string (S xn), .int .i64 xi, .int .i64 xk] 24)).kept hgrow (hne _ (by omega))
      have hB1 := (hB.alloc hsW (.cells #[.string (S xn), .int .i64 xi, .int .i64 xk] 24)).grown hgrow (by rw [World.size_alloc]; omega) (fun k e => by have := (hown.lt k e).1; omega)
      have hs1 := hgrow.size
      rw [World.size_alloc] at hs1
      have hc1 := hv1.cell
      have hf1 := hv1.frozen
      have hkb := Lib.hid (keepsBox_push h1 hv1 hgrow hat)
      have hvg := (hown'.lt vg rfl).1
      gi_wp2
      refine ⟨?_, hkb.out, hfin.out _ vg vc (hv1.set _) ?_ (hv3.other (by omega) _) (hB1.setCell (p := ⟨w.heap.size + 1, 0, none⟩) (by show w.heap.size ≤ w.heap.size + 1; omega) _) (by simp [World.setCell]; omega)⟩
      · exact keepsFrom_push hown hgrow (by omega)
      · exact hown'.kept (grownBy_setCell' w1 (w.heap.size + 1) _) (.inr (fun e => by simp [Value.ownBlock] at e; omega))
  case done =>
    rintro D ys W hD hys ⟨ao, cp, h1, hown, h3, h4, hB, h6⟩ hK
    subst hys
    have k1 := h1.cell
    have htk : (Nm.entsOf rs).take m = Nm.entsOf rs := List.take_of_length_le h4
    replace hown := Lib.hid hown
    replace htk := Lib.hid htk
    gi_wp2
    refine ⟨by simp, .inl ⟨_, _, rfl, run_takeDeferred hK, ?_⟩⟩
    rw [htk.out]
    exact ⟨_, results_tmp (fn := Try.f23) (t := 4) rfl _ _ _, _, rfl, own_walked (own_mono hown.out (by omega)) (grownBy_putObj' _ D (.deferred none)) (fun r e => by cases e; exact ⟨_, hK, rfl⟩), hB.trans (belowK_b (w := w) (Nat.le_refl _) W D _ _ (by omega) hK rfl rfl)⟩
  case stop =>
    rintro D c pre W hD hp ⟨rfl, L, ao, cp, hL, hLm, h1, hown, hB⟩ hK
    have k1 := h1.cell
    have htk : (Nm.entsOf rs).take m = L := by rw [← hLm]; exact (List.prefix_iff_eq_take.1 (hL.trans hp)).symm
    replace hown := Lib.hid hown
    replace htk := Lib.hid htk
    replace hLm := Lib.hid hLm
    gi_wp2
    refine ⟨by simp, .inl ⟨_, _, rfl, run_takeDeferred hK, ?_⟩⟩
    rw [htk.out]
    exact ⟨_, results_tmp (fn := Try.f23) (t := 4) rfl _ _ _, _, rfl, own_walked (own_mono hown.out (by omega)) (grownBy_putObj' _ D (.deferred none)) (fun r e => by cases e; exact ⟨_, hK, rfl⟩), hB.trans (belowK_b (w := w) (Nat.le_refl _) W D _ _ (by omega) hK rfl rfl)⟩
end Go.Proofs.Ytmlgjmcenjbbeaa
