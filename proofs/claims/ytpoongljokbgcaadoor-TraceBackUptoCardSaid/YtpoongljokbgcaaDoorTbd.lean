import Derived.Test.YtpoongljokbgcaaDoorTbc
namespace Go.Proofs.YtpoongljokbgcaaDoor
open Go.RowKit
namespace Tr
theorem uq_len : ∀ (n : Nat) (l : List UInt8), l.length ≤ n → (uq l).1.length ≤ l.length := by
  intro n
  induction n with
  | zero => intro l h; have : l = [] := List.eq_nil_of_length_eq_zero (by omega); subst this; rw [uq_nil]; simp
  | succ n ih =>
    intro l h
    match l, h with
    | [], _ => rw [uq_nil]; simp
    | c :: r, h =>
      simp only [List.length_cons] at h
      by_cases hc : c = 37
      · subst hc
        match r, h with
        | [], _ => rw [uq_short [] (by simp)]; simp
        | [a], _ => rw [uq_short [a] (by simp)]; simp
        | a :: b :: r', h =>
          simp only [List.length_cons] at h
          cases hd : unh a b with
          | none => rw [uq_none a b r' hd]; simp
          | some d => rw [uq_some a b d r' hd]; have := ih r' (by omega); simp only [List.length_cons]; omega
      · rw [uq_bare c r hc]; have := ih r (by omega); simp only [List.length_cons]; omega
theorem unq_len (l : List UInt8) : ((unq l).getD []).length ≤ l.length := by
  unfold unq
  split
  · exact uq_len l.length l (Nat.le_refl _)
  · simp
theorem unhexes_len : ∀ (n : Nat) (l : List UInt8), l.length ≤ n → ((unhexes l).getD []).length ≤ l.length := by
  intro n
  induction n with
  | zero => intro l h; have : l = [] := List.eq_nil_of_length_eq_zero (by omega); subst this; simp [unhexes]
  | succ n ih =>
    intro l h
    match l, h with
    | [], _ => simp [unhexes]
    | [_], _ => simp [unhexes]
    | a :: b :: r, h =>
      simp only [List.length_cons] at h
      unfold unhexes
      cases unh a b with
      | none => simp
      | some d =>
        have := ih r (by omega)
        cases hr : unhexes r with
        | none => simp [hr]
        | some y => rw [hr] at this; simp at this ⊢; omega
theorem unhexesX_len (l : List UInt8) : ((unhexesX l).getD []).length ≤ l.length := by
  unfold unhexesX
  split
  · rename_i r; have := unhexes_len r.length r (Nat.le_refl _); simp only [List.length_cons]; omega
  · simp
theorem spl_mem (c : UInt8) (l : List UInt8) : ∀ x ∈ spl c l, x.length ≤ l.length := by
  induction l with
  | nil => intro x hx; simp [spl] at hx; subst hx; simp
  | cons b l ih =>
    intro x hx
    unfold spl at hx
    split at hx
    · rcases List.mem_cons.1 hx with rfl | h
      · simp
      · have := ih x h; simp; omega
    · split at hx
      · rename_i y ys hy
        rw [hy] at ih
        rcases List.mem_cons.1 hx with rfl | h
        · have := ih y (by simp); simp; omega
        · have := ih x (by simp [h]); simp; omega
      · simp at hx; subst hx; simp
theorem quo_len (l : List UInt8) : (quo l).length ≤ 3 * l.length + 1 := by
  unfold quo; split
  · simp
  · have := flat_len l; omega
theorem hexes_len (l : List UInt8) : (hexes l).length = 2 * l.length + 1 := by unfold hexes; rw [List.length_cons, hexflat_len]
theorem word_len (k : Int) : (word k).length ≤ 8 := by
  unfold word; split
  · rename_i h
    obtain ⟨j, hj, hj2⟩ : ∃ j, (k - 1).toNat = j ∧ j < 13 := ⟨_, rfl, by omega⟩
    rw [hj]
    have : ∀ j, j < 13 → (wds.getD j []).length ≤ 8 := by decide
    exact this j hj2
  · simp
theorem join_len (xs : List (List UInt8)) (c : UInt8) (N : Nat) (h : ∀ x ∈ xs, x.length ≤ N) : (Lib.join xs [c]).length ≤ xs.length * (N + 1) := by
  cases xs with
  | nil => simp [Lib.join_nil]
  | cons x r =>
    rw [Lib.join_cons, List.length_append]
    have hx := h x (by simp)
    have : (Lib.joinTail [c] r).length ≤ r.length * (N + 1) := by
      have hr : ∀ y ∈ r, y.length ≤ N := fun y hy => h y (by simp [hy])
      clear h hx
      induction r with
      | nil => simp [Lib.joinTail]
      | cons y r ih =>
        have h1 := ih (fun z hz => hr z (by simp [hz]))
        have h2 := hr y (by simp)
        unfold Lib.joinTail at *
        simp only [List.map_cons, List.flatten_cons, List.length_append, List.length_cons, List.length_nil] at *
        rw [Nat.add_mul]; omega
    rw [List.length_cons, Nat.add_mul]; omega
theorem fields_mem (o : Opr) (ho : o.ok) (N : Nat) (h1 : o.path.length ≤ N) (h2 : o.dest.length ≤ N) (h3 : o.data.length ≤ N) : ∀ x ∈ fields o, x.length ≤ 3 * N + 21 := by
  have q1 := quo_len o.path
  have q2 := quo_len o.dest
  have q3 := hexes_len o.data
  have q4 := Lib.itoa_length_le o.off ho.2.1.1 ho.2.1.2
  have q5 := Lib.itoa_length_le o.len ho.2.2.1 ho.2.2.2
  unfold fields
  intro x hx
  split at hx
  · simp at hx; rcases hx with rfl | rfl <;> omega
  split at hx
  · simp at hx; rcases hx with rfl | rfl | rfl <;> omega
  split at hx
  · simp at hx; rcases hx with rfl | rfl <;> omega
  split at hx
  · simp at hx; rcases hx with rfl | rfl | rfl <;> omega
  split at hx
  · simp at hx
  · simp at hx; subst hx; omega
theorem line_len (o : Opr) (ho : o.ok) (N : Nat) (h1 : o.path.length ≤ N) (h2 : o.dest.length ≤ N) (h3 : o.data.length ≤ N) : (Lib.join (word o.kind :: fields o) [32]).length ≤ 4 * (3 * N + 22) := by
  have := join_len (word o.kind :: fields o) 32 (3 * N + 21) (fun x hx => by
    rcases List.mem_cons.1 hx with rfl | h
    · have := word_len o.kind; omega
    · exact fields_mem o ho N h1 h2 h3 x h)
  have hl := fields_len o
  refine Nat.le_trans this ?_
  simp only [List.length_cons]
  exact Nat.mul_le_mul_right _ (by omega)
end Tr
def PairText (a : List UInt8) (n : Int) (w : World) (e : Ending) (w' : World) : Prop := e = .returned (.tuple #[.string (S a), .int .i64 n]) ∧ Below w.heap.size w w'
theorem unquote_pair (l : List UInt8) (w : World) (hl : 3 * l.length ≤ 140737488355328) :
    Calls Tryd.prog 10 #[.string (S l)] w (PairText ((Tr.unq l).getD []) (if (Tr.unq l).isSome then 0 else 270) w) :=
  (unquote_any l w hl).mono fun e w' ⟨he, hb⟩ => ⟨by rw [he]; cases Tr.unq l <;> rfl, hb⟩
def PairBytes (a : List UInt8) (w : World) (e : Ending) (w' : World) : Prop := ∃ v b, e = .returned (.tuple #[v, .bool b]) ∧ w'.ownsRow w.heap.size 5 1 v a.length (Lib.byteCells a) ∧ Below w.heap.size w w'
theorem unhexes_pair (l : List UInt8) (w : World) (hl : l.length ≤ 140737488355328) :
    Calls Tryd.prog 48 #[.string (S l)] w (PairBytes ((Tr.unhexesX l).getD []) w) :=
  (unhexes_any l w hl).mono fun e w' h => by
    unfold BytesBool at h
    cases hx : Tr.unhexesX l with
    | none => rw [hx] at h; obtain ⟨⟨v, he, ho⟩, hb⟩ := h; exact ⟨v, false, he, ho, hb⟩
    | some y => rw [hx] at h; obtain ⟨⟨v, he, ho⟩, hb⟩ := h; exact ⟨v, true, he, ho, hb⟩
theorem pnum_in (l : List UInt8) : in64 (Tr.pnum l).1 := by
  unfold Tr.pnum in64
  dsimp only
  split
  · split <;> (unfold wrap64; omega)
  · simp
end Go.Proofs.YtpoongljokbgcaaDoor
/- Answers as plain data, and the line of an answer (trace.Answer). -/
namespace Go.Proofs.YtpoongljokbgcaaDoor
open Go.RowKit
structure Ent where
  name : List UInt8
  ino : Int
  kind : Int
structure Res where
  err : Int
  data : List UInt8
  kind : Int
  links : Int
  size : Int
  list : List Ent
/-- A slice of entries, three cells each, reads as this list. -/
def RdE (W : World) (v : Value) (xs : List Ent) : Prop :=
  ∃ a cap, v = .slice a xs.length cap ∧ xs.length ≤ cap ∧ ∀ j x, xs[j]? = some x → ∃ b o, a = some ⟨b, o, none⟩ ∧ b < W.heap.size ∧
    W.cell? ⟨b, o + j * 3, none⟩ = some (.string (S x.name)) ∧ W.cell? ⟨b, o + j * 3 + 1, none⟩ = some (.int .i64 x.ino) ∧ W.cell? ⟨b, o + j * 3 + 2, none⟩ = some (.int .i64 x.kind)
theorem RdE.nil (W : World) : RdE W (.slice none 0 0) [] := ⟨none, 0, rfl, Nat.le_refl _, fun j x h => by simp at h⟩
theorem RdE.below {W W' : World} {v : Value} {xs : List Ent} (h : RdE W v xs) (hb : Below W.heap.size W W') : RdE W' v xs := by
  obtain ⟨a, cap, h1, h2, h3⟩ := h
  refine ⟨a, cap, h1, h2, fun j x hj => ?_⟩
  obtain ⟨b, o, h4, h5, h6, h7, h8⟩ := h3 j x hj
  exact ⟨b, o, h4, Nat.lt_of_lt_of_le h5 hb.size, by rw [hb.cell (p := ⟨b, o + j * 3, none⟩) h5]; exact h6, by rw [hb.cell (p := ⟨b, o + j * 3 + 1, none⟩) h5]; exact h7, by rw [hb.cell (p := ⟨b, o + j * 3 + 2, none⟩) h5]; exact h8⟩
theorem RdE.len {W : World} {v : Value} {xs : List Ent} (h : RdE W v xs) : ∃ a cap, v = .slice a xs.length cap := by
  obtain ⟨a, cap, h1, _⟩ := h; exact ⟨a, cap, h1⟩
theorem RdE.at {W : World} {v : Value} {xs : List Ent} (h : RdE W v xs) (hx : xs ≠ []) :
    ∃ b o cap, v = .slice (some ⟨b, o, none⟩) xs.length cap ∧ xs.length ≤ cap ∧ b < W.heap.size ∧ ∀ j (hj : j < xs.length),
      W.cell? ⟨b, o + j * 3, none⟩ = some (.string (S xs[j].name)) ∧ W.cell? ⟨b, o + j * 3 + 1, none⟩ = some (.int .i64 xs[j].ino) ∧ W.cell? ⟨b, o + j * 3 + 2, none⟩ = some (.int .i64 xs[j].kind) := by
  obtain ⟨a, cap, rfl, hc, h3⟩ := h
  match xs, hx with
  | x :: xs, _ =>
    obtain ⟨b, o, rfl, hb, _⟩ := h3 0 x rfl
    refine ⟨b, o, cap, rfl, hc, hb, fun j hj => ?_⟩
    obtain ⟨b', o', e, _, h⟩ := h3 j _ (List.getElem?_eq_getElem hj)
    cases e; exact h
namespace Tr
def ent (e : Ent) : List UInt8 := quo e.name ++ (58 :: Lib.itoa e.kind)
def answer (k : Int) (r : Res) : List UInt8 :=
  if r.err ≠ 0 then [101, 114, 114, 111, 114, 32] ++ Lib.itoa r.err
  else if k = 9 then [100, 97, 116, 97, 32] ++ hexes r.data
  else if k = 10 then [115, 116, 97, 116, 32] ++ Lib.itoa r.kind ++ [32] ++ Lib.itoa r.links ++ [32] ++ Lib.itoa r.size
  else if k = 11 then Lib.join ([108, 105, 115, 116] :: r.list.map ent) [32]
  else [111, 107]
end Tr
def Res.ok (r : Res) : Prop := in64 r.err ∧ in64 r.kind ∧ in64 r.links ∧ in64 r.size ∧ ∀ e ∈ r.list, in64 e.kind
/-- What an answer's line may be long. -/
structure Res.fits (r : Res) : Prop where
  data : 2 * r.data.length + 1 ≤ 140737488355328
  names : ∀ e ∈ r.list, 3 * e.name.length ≤ 140737488355328
  many : r.list.length ≤ 1000000000000
  line : (Lib.join ([108, 105, 115, 116] :: r.list.map Tr.ent) [32]).length ≤ 140737488355328
theorem stat_eq (a b c : List UInt8) : (⟨#[115, 116, 97, 116, 32]⟩ : ByteArray) ++ S a ++ ⟨#[32]⟩ ++ S b ++ ⟨#[32]⟩ ++ S c = S ([115, 116, 97, 116, 32] ++ a ++ [32] ++ b ++ [32] ++ c) := by
  rw [← S_append, ← S_append, ← S_append, ← S_append, ← S_append]
  rfl
theorem map_snoc (a : List UInt8) (xs : List Ent) (x : Ent) : (a :: (xs ++ [x]).map Tr.ent).map strV = (a :: xs.map Tr.ent).map strV ++ [strV (Tr.ent x)] := by simp
theorem ent_eq (a : List UInt8) (i k : Int) : Value.string (S (Tr.quo a) ++ ⟨#[58]⟩ ++ S (Lib.itoa k)) = strV (Tr.ent ⟨a, i, k⟩) := by
  unfold strV Tr.ent
  rw [← S_append, show (58 :: Lib.itoa k) = [58] ++ Lib.itoa k from rfl, ← S_append, ByteArray.append_assoc]
  rfl
set_option maxRecDepth 100000 in
set_option maxHeartbeats 4000000 in
theorem list_any (er : Int) (l : List UInt8) (kd ln sz : Int) (xs : List Ent) (dv lv : Value) (w : World) (hes : ∀ e ∈ xs, 3 * e.name.length ≤ 140737488355328 ∧ in64 e.kind) (hm : xs.length ≤ 1000000000000)
    (hj : (Lib.join ([108, 105, 115, 116] :: xs.map Tr.ent) [32]).length ≤ 140737488355328) (hl : RdE w lv xs) (he0 : er = 0) (hfin : Tr.answer 11 ⟨er, l, kd, ln, sz, xs⟩ = Lib.join ([108, 105, 115, 116] :: xs.map Tr.ent) [32]) :
    Calls Tryd.prog 14 #[.int .i64 11, .agg #[.int .i64 er, dv, .int .i64 kd, .int .i64 ln, .int .i64 sz, lv]] w (TextBelow (Tr.answer 11 ⟨er, l, kd, ln, sz, xs⟩) w) := by
  subst he0
  obtain ⟨i0, hi0, hz0, hz1, hz2⟩ := info_parts infoStr
  have hat : xs ≠ [] → _ := hl.at
  obtain ⟨a, cap, rfl⟩ := hl.len
  have hB0 : Below w.heap.size w (w.alloc (.cells #[.int .i64 0, dv, .int .i64 kd, .int .i64 ln, .int .i64 sz, .slice a xs.length cap] 33)) := (Below.refl _ _).alloc (Nat.le_refl _) _
  replace hB0 := Lib.hid hB0
  replace hes := Lib.hid hes
  replace hj := Lib.hid hj
  replace hl := Lib.hid hl
  replace hfin := Lib.hid hfin
  replace hat := Lib.hid hat
  go_enter Tryd.func14, Tryd.ntmps14
  go_wp2_with fail
  have hL := own_lit (w.alloc (.cells #[.int .i64 0, dv, .int .i64 kd, .int .i64 ln, .int .i64 sz, .slice a xs.length cap] 33)) w.heap.size 9 (.string (S [108, 105, 115, 116])) (by simp)
  rw [World.size_alloc] at hL
  have hB1 := hB0.out.alloc hB0.out.size (.cells #[.string (S [108, 105, 115, 116])] 9)
  go_loopw [5, 50] (fun v k wr => ∃ i : Nat, i ≤ xs.length ∧ k = .int .i64 i ∧ wr.ownsRow w.heap.size 9 1 v (i + 1) (([108, 105, 115, 116] :: (xs.take i).map Tr.ent).map strV) ∧ Below w.heap.size w wr)
    (fun _ k _ => xs.length - (intOf k).toNat)
  case atStart => exact ⟨0, Nat.zero_le _, rfl, hL, hB1⟩
  case round =>
    obtain ⟨i, hi, rfl, hown, hW⟩ := hrel
    have hsz := hW.size
    by_cases hlt : i < xs.length
    · have hne : xs ≠ [] := by intro h; rw [h] at hlt; simp at hlt
      obtain ⟨b, o, cap', hv, hcap, hb, hcell⟩ := hat.out hne
      cases hv
      obtain ⟨d0, d1, d2⟩ := hcell i hlt
      rw [← hW.cell (p := ⟨b, o + i * 3, none⟩) hb] at d0
      rw [← hW.cell (p := ⟨b, o + i * 3 + 1, none⟩) hb] at d1
      rw [← hW.cell (p := ⟨b, o + i * 3 + 2, none⟩) hb] at d2
      clear hcell hat hne
      have hee := Lib.hid (hes.out xs[i] (List.getElem_mem hlt))
      obtain ⟨x, hx⟩ : ∃ x, xs[i] = x := ⟨_, rfl⟩
      rw [hx] at d0 d1 d2 hee
      have hts := Lib.hid (show xs.take (i + 1) = xs.take i ++ [x] by rw [← hx]; simp)
      replace hx := Lib.hid hx
      have hq1 := Tr.quo_len x.name
      have hq2 := hee.out.1
      have hq3 := Lib.itoa_length_le x.kind hee.out.2.1 hee.out.2.2
      have hq4 : (Tr.quo x.name).length ≤ 140737488355329 := by omega
      clear hq1
      replace hq2 := Lib.hid hq2
      have hk := Lib.hid hee.out.2
      clear hee
      obtain ⟨xn, xi, xk⟩ := x
      dsimp only at d0 d1 d2 hq2 hq3 hq4 hk
      have hm' := hm
      have k1 : (S (Tr.quo xn)).size + (⟨#[58]⟩ : ByteArray).size ≤ 9223372036854775807 := by
        rw [S_size]; show (Tr.quo xn).length + 1 ≤ _; omega
      have k2 : (S (Tr.quo xn) ++ ⟨#[58]⟩).size + (S (Lib.itoa xk)).size ≤ 9223372036854775807 := by
        rw [ByteArray.size_append, S_size, S_size]; show (Tr.quo xn).length + 1 + _ ≤ _; omega
      have kr1 := fun W : World => run_string_add_sum (P := Tryd.prog) W _ _ k1
      have kr2 := fun W : World => run_string_add_sum (P := Tryd.prog) W _ _ k2
      clear k1 k2
      go_wp2_with fail
      have hwx : Below w.heap.size w (wr.alloc (.cells #[.string (S xn), .int .i64 xi, .int .i64 xk] 39)) := hW.alloc hsz _
      have hox := hown.alloc (.cells #[.string (S xn), .int .i64 xi, .int .i64 xk] 39)
      have e0 : (wr.alloc (.cells #[.string (S xn), .int .i64 xi, .int .i64 xk] 39)).cell? ⟨wr.heap.size, 0, none⟩ = some (.string (S xn)) := by simp
      have e2 : (wr.alloc (.cells #[.string (S xn), .int .i64 xi, .int .i64 xk] 39)).cell? ⟨wr.heap.size, 2, none⟩ = some (.int .i64 xk) := by simp
      have hzx : wr.heap.size + 1 ≤ (wr.alloc (.cells #[.string (S xn), .int .i64 xi, .int .i64 xk] 39)).heap.size := by simp
      generalize wr.alloc (.cells #[.string (S xn), .int .i64 xi, .int .i64 xk] 39) = wx at e0 e2 hwx hox hzx ⊢
      have hne : some wr.heap.size ≠ Value.ownBlock _ := fun h => absurd (hown.lt _ h.symm).2 (Nat.lt_irrefl _)
      go_region_held3 (fun w' => w'.cell? ⟨wr.heap.size, 0, none⟩ = some (.string (S xn)) ∧ w'.cell? ⟨wr.heap.size, 2, none⟩ = some (.int .i64 xk) ∧ wr.heap.size + 1 ≤ w'.heap.size)
        (first | (go_split_ands; refine ⟨?_, ?_, ?_⟩ <;> first | assumption | (rw [hb1.cell (by simp; omega)]; assumption) | (rw [hb2.cell (by simp; omega)]; assumption) | (have := hb1.size; omega) | (have := hb2.size; omega) | (rw [World.cell?_alloc_lt _ _ _ (by simp; omega)]; assumption) | (rw [World.size_alloc]; omega) | (refine (hgrow.cell_far _ (by show wr.heap.size < _; rw [World.size_alloc]; omega) hne).trans ?_; first | assumption | (rw [World.cell?_alloc_lt _ _ _ (by simp; omega)]; assumption)) | (have := hgrow.size; rw [World.size_alloc] at this; omega)) | go_keep)
        (first | (go_at_call 12; refine (quote_any xn _ hq2.out).mono ?_; rintro e w1 ⟨rfl, hb1⟩; have hy1 : wx.heap.size ≤ w1.heap.size := hb1.size) | (go_at_call 43; refine (num_any xk _ hk.out.1 hk.out.2).mono ?_; rintro e w2 ⟨rfl, hb2⟩; have hy2 : w1.heap.size ≤ w2.heap.size := hb2.size) | (refine step_append_lies _ (by rfl) (.tmp 54) (.tmp 63) 58 (by rfl) w.heap.size 9 i0 _ 1 16 Tryd.underlying58 hi0 hz0 hz1 hz2 rfl (by omega) _ (i + 1) (([108, 105, 115, 116] :: (xs.take i).map Tr.ent).map strV) (by rfl) ((own_below (own_below (own_drew hox) hb1) hb2).alloc _) ⟨w2.heap.size, 0, none⟩ 1 1 [.string (S (Tr.quo xn) ++ ⟨#[58]⟩ ++ S (Lib.itoa xk))] (by rfl) (by rfl) (World.news_of_block (cs := #[.string (S (Tr.quo xn) ++ ⟨#[58]⟩ ++ S (Lib.itoa xk))]) (t := 9) (fr := (0, 0)) (heap_alloc_new w2 _)) (by simp [Value.oneCell']) (by omega) (by unfold maxLen; omega) (by omega) (by rw [World.size_alloc]; omega) (w2.heap.size + 1) (by simp) ?_; intro gg cap w3 hown3 hgrow hat hlt3))
      all_goals
        go_wp2_with fail
        go_roundw
        case rel =>
          refine ⟨i + 1, by omega, by go_num, ?_, (((hwx.drew.trans (hb1.mono (show w.heap.size ≤ wx.heap.size by omega))).trans (hb2.mono (show w.heap.size ≤ w1.heap.size by omega))).alloc (by omega) _).grown hgrow (by rw [World.size_alloc]; omega) (fun k hk => (hown.lt k hk).1)⟩
          rw [hts.out, map_snoc, ← ent_eq]
          exact hown3
        case measure => simp [intOf]; omega
    · have hi' : i = xs.length := by omega
      subst hi'
      rw [List.take_length] at hown
      go_wp2_with fail
      refine (join_S _ _ ([108, 105, 115, 116] :: xs.map Tr.ent) 32 (Rd.of_own (B := w.heap.size) (e := 9) (xs := [108, 105, 115, 116] :: xs.map Tr.ent) (by simpa using hown)) (by simp; omega) hj.out).mono ?_
      rintro e w4 ⟨rfl, hb4⟩
      go_wp2_with fail
      go_ret
      exact ⟨by rw [hfin.out]; rfl, hW.trans (hb4.mono hW.size)⟩
end Go.Proofs.YtpoongljokbgcaaDoor
/- The contract of trace.Answer. -/
namespace Go.Proofs.YtpoongljokbgcaaDoor
open Go.RowKit
set_option maxRecDepth 100000 in
set_option maxHeartbeats 4000000 in
theorem answer_any (k : Int) (r : Res) (dv lv : Value) (w : World) (hk : in64 k) (hr : r.ok) (hf : r.fits) (hd : RdB w dv r.data) (hl : RdE w lv r.list) :
    Calls Tryd.prog 14 #[.int .i64 k, .agg #[.int .i64 r.err, dv, .int .i64 r.kind, .int .i64 r.links, .int .i64 r.size, lv]] w (TextBelow (Tr.answer k r) w) := by
  obtain ⟨er, l, kd, ln, sz, xs⟩ := r
  obtain ⟨he, hkd, hln, hsz, hes⟩ := hr
  obtain ⟨hf1, hf2, hf3, hf4⟩ := hf
  dsimp only at *
  have hB0 : Below w.heap.size w (w.alloc (.cells #[.int .i64 er, dv, .int .i64 kd, .int .i64 ln, .int .i64 sz, lv] 33)) := (Below.refl _ _).alloc (Nat.le_refl _) _
  replace hB0 := Lib.hid hB0
  replace he := Lib.hid he
  replace hkd := Lib.hid hkd
  replace hln := Lib.hid hln
  replace hsz := Lib.hid hsz
  replace hes := Lib.hid hes
  replace hf1 := Lib.hid hf1
  replace hf2 := Lib.hid hf2
  replace hf3 := Lib.hid hf3
  replace hf4 := Lib.hid hf4
  replace hd := Lib.hid hd
  replace hl := Lib.hid hl
  by_cases h0 : er ≠ 0
  · have hfin := Lib.hid (show Tr.answer k ⟨er, l, kd, ln, sz, xs⟩ = [101, 114, 114, 111, 114, 32] ++ Lib.itoa er by unfold Tr.answer; rw [if_pos h0])
    have h0' : (er != 0) = true := by simpa using h0
    have hle := Lib.itoa_length_le er he.out.1 he.out.2
    clear h0
    go_enter Tryd.func14, Tryd.ntmps14
    go_wp2_with fail
    refine (num_any er _ he.out.1 he.out.2).mono ?_
    rintro e w1 ⟨rfl, hb1⟩
    have hB1 := hB0.out.trans (hb1.mono hB0.out.size)
    go_wp2_with fail
    go_ret
    exact ⟨by rw [hfin.out]; rfl, hB1⟩
  have h0' : (er != 0) = false := by simpa using h0
  have ha : Tr.answer k ⟨er, l, kd, ln, sz, xs⟩ = if k = 9 then [100, 97, 116, 97, 32] ++ Tr.hexes l
      else if k = 10 then [115, 116, 97, 116, 32] ++ Lib.itoa kd ++ [32] ++ Lib.itoa ln ++ [32] ++ Lib.itoa sz
      else if k = 11 then Lib.join ([108, 105, 115, 116] :: xs.map Tr.ent) [32] else [111, 107] := by unfold Tr.answer; rw [if_neg h0]
  clear h0
  replace ha := Lib.hid ha
  by_cases k9 : k = 9
  · have hfin := Lib.hid (show Tr.answer k ⟨er, l, kd, ln, sz, xs⟩ = [100, 97, 116, 97, 32] ++ Tr.hexes l by rw [ha.out, if_pos k9])
    subst k9
    have hlen : (Tr.hexes l).length = 2 * l.length + 1 := by unfold Tr.hexes; rw [List.length_cons, hexflat_len]
    have hle : (Tr.hexes l).length ≤ 140737488355328 := by rw [hlen]; exact hf1.out
    clear hlen
    go_enter Tryd.func14, Tryd.ntmps14
    go_wp2_with fail
    refine (hexes_any dv l _ (hd.out.below ((Below.refl _ _).alloc (Nat.le_refl _) _)) hf1.out).mono ?_
    rintro e w1 ⟨rfl, hb1⟩
    have hB1 := hB0.out.trans (hb1.mono hB0.out.size)
    go_wp2_with fail
    go_ret
    exact ⟨by rw [hfin.out]; rfl, hB1⟩
  have k9' : (k == 9) = false := beq_eq_false_iff_ne.2 k9
  by_cases k10 : k = 10
  · have hfin := Lib.hid (show Tr.answer k ⟨er, l, kd, ln, sz, xs⟩ = [115, 116, 97, 116, 32] ++ Lib.itoa kd ++ [32] ++ Lib.itoa ln ++ [32] ++ Lib.itoa sz by rw [ha.out, if_neg k9, if_pos k10])
    subst k10
    clear k9
    have hl1 := Lib.itoa_length_le kd hkd.out.1 hkd.out.2
    have hl2 := Lib.itoa_length_le ln hln.out.1 hln.out.2
    have hl3 := Lib.itoa_length_le sz hsz.out.1 hsz.out.2
    have q1 : (⟨#[115, 116, 97, 116, 32]⟩ : ByteArray).size = 5 := rfl
    have q2 : (⟨#[32]⟩ : ByteArray).size = 1 := rfl
    have kr1 := fun W : World => run_string_add_sum (P := Tryd.prog) W ⟨#[115, 116, 97, 116, 32]⟩ (S (Lib.itoa kd)) (by rw [S_size, q1]; omega)
    have kr2 := fun W : World => run_string_add_sum (P := Tryd.prog) W (⟨#[115, 116, 97, 116, 32]⟩ ++ S (Lib.itoa kd)) ⟨#[32]⟩ (by rw [ByteArray.size_append, S_size, q1, q2]; omega)
    have kr3 := fun W : World => run_string_add_sum (P := Tryd.prog) W (⟨#[115, 116, 97, 116, 32]⟩ ++ S (Lib.itoa kd) ++ ⟨#[32]⟩) (S (Lib.itoa ln)) (by rw [ByteArray.size_append, ByteArray.size_append, S_size, S_size, q1, q2]; omega)
    have kr4 := fun W : World => run_string_add_sum (P := Tryd.prog) W (⟨#[115, 116, 97, 116, 32]⟩ ++ S (Lib.itoa kd) ++ ⟨#[32]⟩ ++ S (Lib.itoa ln)) ⟨#[32]⟩ (by rw [ByteArray.size_append, ByteArray.size_append, ByteArray.size_append, S_size, S_size, q1, q2]; omega)
    have kr5 := fun W : World => run_string_add_sum (P := Tryd.prog) W (⟨#[115, 116, 97, 116, 32]⟩ ++ S (Lib.itoa kd) ++ ⟨#[32]⟩ ++ S (Lib.itoa ln) ++ ⟨#[32]⟩) (S (Lib.itoa sz)) (by rw [ByteArray.size_append, ByteArray.size_append, ByteArray.size_append, ByteArray.size_append, S_size, S_size, S_size, q1, q2]; omega)
    clear q1 q2
    go_enter Tryd.func14, Tryd.ntmps14
    go_wp2_with fail
    have hw0 : Below w.heap.size w (w.alloc (.cells #[.int .i64 er, dv, .int .i64 kd, .int .i64 ln, .int .i64 sz, lv] 33)) := hB0.out
    have c2 : (w.alloc (.cells #[.int .i64 er, dv, .int .i64 kd, .int .i64 ln, .int .i64 sz, lv] 33)).cell? ⟨w.heap.size, 2, none⟩ = some (.int .i64 kd) := by simp
    have c3 : (w.alloc (.cells #[.int .i64 er, dv, .int .i64 kd, .int .i64 ln, .int .i64 sz, lv] 33)).cell? ⟨w.heap.size, 3, none⟩ = some (.int .i64 ln) := by simp
    have c4 : (w.alloc (.cells #[.int .i64 er, dv, .int .i64 kd, .int .i64 ln, .int .i64 sz, lv] 33)).cell? ⟨w.heap.size, 4, none⟩ = some (.int .i64 sz) := by simp
    have hz : w.heap.size + 1 ≤ (w.alloc (.cells #[.int .i64 er, dv, .int .i64 kd, .int .i64 ln, .int .i64 sz, lv] 33)).heap.size := by simp
    generalize w.alloc (.cells #[.int .i64 er, dv, .int .i64 kd, .int .i64 ln, .int .i64 sz, lv] 33) = wx at c2 c3 c4 hz hw0 ⊢
    go_region_held3 (fun w' => w'.cell? ⟨w.heap.size, 2, none⟩ = some (.int .i64 kd) ∧ w'.cell? ⟨w.heap.size, 3, none⟩ = some (.int .i64 ln) ∧ w'.cell? ⟨w.heap.size, 4, none⟩ = some (.int .i64 sz) ∧ w.heap.size + 1 ≤ w'.heap.size ∧ Below w.heap.size w w')
      (first | (go_split_ands; refine ⟨?_, ?_, ?_, ?_, ?_⟩ <;> first | assumption | (rw [hb1.cell (by simp; omega)]; assumption) | (have := hb1.size; omega) | exact Below.drew (by assumption) | exact Below.trans (by assumption) (hb1.mono (by omega))) | go_keep)
      (first | (go_at_call 43; refine (num_any _ _ ?_ ?_).mono ?_; (first | exact hkd.out.1 | exact hln.out.1 | exact hsz.out.1); (first | exact hkd.out.2 | exact hln.out.2 | exact hsz.out.2); rintro e w2 ⟨rfl, hb1⟩))
    all_goals
      obtain ⟨_, _, _, hz, hBB⟩ := ‹_ ∧ _ ∧ _ ∧ _ ∧ _›
      go_wp2_with fail
      go_ret
      exact ⟨by rw [hfin.out, ← stat_eq]; rfl, hBB⟩
  have k10' : (k == 10) = false := beq_eq_false_iff_ne.2 k10
  by_cases k11 : k = 11
  · have hfin := Lib.hid (show Tr.answer k ⟨er, l, kd, ln, sz, xs⟩ = Lib.join ([108, 105, 115, 116] :: xs.map Tr.ent) [32] by rw [ha.out, if_neg k9, if_neg k10, if_pos k11])
    subst k11
    clear k9 k10 ha
    exact list_any er l kd ln sz xs dv lv w (fun e he' => ⟨hf2.out e he', hes.out e he'⟩) hf3.out hf4.out hl.out (by simpa using h0') hfin.out
  have k11' : (k == 11) = false := beq_eq_false_iff_ne.2 k11
  have hfin := Lib.hid (show Tr.answer k ⟨er, l, kd, ln, sz, xs⟩ = [111, 107] by rw [ha.out, if_neg k9, if_neg k10, if_neg k11])
  clear k9 k10 k11
  go_enter Tryd.func14, Tryd.ntmps14
  go_wp2_with fail
  go_ret
  exact ⟨by rw [hfin.out]; rfl, hB0.out⟩
end Go.Proofs.YtpoongljokbgcaaDoor
