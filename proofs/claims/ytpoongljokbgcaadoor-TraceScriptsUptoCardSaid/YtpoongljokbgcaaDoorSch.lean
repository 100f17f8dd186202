import Derived.Test.YtpoongljokbgcaaDoorScg
import Derived.Test.YtpoongljokbgcaaDoorScf
import Derived.Test.YtpoongljokbgcaaDoorScb
/- Slices of calls in memory: what is read of them, what is owned. -/
namespace Go.Proofs.YtpoongljokbgcaaDoor
open Go.RowKit
theorem slice_form {W : World} {base : Nat} {e : TypeId} {size : Nat} {v : Value} {n : Nat} {xs : List Value} (h : W.ownsRow base e size v n xs) : ∃ ao cap, v = .slice ao n cap := by
  rcases h.2 with ⟨hv, h0⟩ | ⟨g, cap, cur, hv, _⟩
  · exact ⟨_, _, by rw [hv, h0]⟩
  · exact ⟨_, _, hv⟩
/-- A slice of calls, six cells each, reads as this list. -/
def RdO (W : World) (v : Value) (xs : List Opr) : Prop :=
  ∃ a cap, v = .slice a xs.length cap ∧ xs.length ≤ cap ∧ ∀ j x, xs[j]? = some x → ∃ b o ad cp, a = some ⟨b, o, none⟩ ∧ b < W.heap.size ∧
    W.cell? ⟨b, o + j * 6, none⟩ = some (.int .i64 x.kind) ∧ W.cell? ⟨b, o + j * 6 + 1, none⟩ = some (.string (S x.path)) ∧ W.cell? ⟨b, o + j * 6 + 2, none⟩ = some (.string (S x.dest)) ∧
    W.cell? ⟨b, o + j * 6 + 3, none⟩ = some (.int .i64 x.off) ∧ W.cell? ⟨b, o + j * 6 + 4, none⟩ = some (.int .i64 x.len) ∧ W.cell? ⟨b, o + j * 6 + 5, none⟩ = some (.slice ad x.data.length cp) ∧
    RdB W (.slice ad x.data.length cp) x.data
theorem RdO.nil (W : World) : RdO W (.slice none 0 0) [] := ⟨none, 0, rfl, Nat.le_refl _, fun j x h => by simp at h⟩
theorem RdO.below {W W' : World} {v : Value} {xs : List Opr} (h : RdO W v xs) (hb : Below W.heap.size W W') : RdO W' v xs := by
  obtain ⟨a, cap, h1, h2, h3⟩ := h
  refine ⟨a, cap, h1, h2, fun j x hj => ?_⟩
  obtain ⟨b, o, ad, cp, h4, h5, c0, c1, c2, c3, c4, c5, hd⟩ := h3 j x hj
  have hk : ∀ i, W'.cell? ⟨b, i, none⟩ = W.cell? ⟨b, i, none⟩ := fun i => hb.cell (p := ⟨b, i, none⟩) h5
  exact ⟨b, o, ad, cp, h4, Nat.lt_of_lt_of_le h5 hb.size, by rw [hk]; exact c0, by rw [hk]; exact c1, by rw [hk]; exact c2, by rw [hk]; exact c3, by rw [hk]; exact c4, by rw [hk]; exact c5, hd.below hb⟩
theorem RdO.len {W : World} {v : Value} {xs : List Opr} (h : RdO W v xs) : ∃ a cap, v = .slice a xs.length cap := by
  obtain ⟨a, cap, h1, _⟩ := h; exact ⟨a, cap, h1⟩
theorem RdO.at {W : World} {v : Value} {xs : List Opr} (h : RdO W v xs) (hx : xs ≠ []) :
    ∃ b o cap, v = .slice (some ⟨b, o, none⟩) xs.length cap ∧ xs.length ≤ cap ∧ b < W.heap.size ∧ ∀ j (hj : j < xs.length), ∃ ad cp,
      W.cell? ⟨b, o + j * 6, none⟩ = some (.int .i64 xs[j].kind) ∧ W.cell? ⟨b, o + j * 6 + 1, none⟩ = some (.string (S xs[j].path)) ∧ W.cell? ⟨b, o + j * 6 + 2, none⟩ = some (.string (S xs[j].dest)) ∧
      W.cell? ⟨b, o + j * 6 + 3, none⟩ = some (.int .i64 xs[j].off) ∧ W.cell? ⟨b, o + j * 6 + 4, none⟩ = some (.int .i64 xs[j].len) ∧ W.cell? ⟨b, o + j * 6 + 5, none⟩ = some (.slice ad xs[j].data.length cp) ∧
      RdB W (.slice ad xs[j].data.length cp) xs[j].data := by
  obtain ⟨a, cap, rfl, hc, h3⟩ := h
  match xs, hx with
  | x :: xs, _ =>
    obtain ⟨b, o, _, _, rfl, hb, _⟩ := h3 0 x rfl
    refine ⟨b, o, cap, rfl, hc, hb, fun j hj => ?_⟩
    obtain ⟨b', o', ad, cp, e, _, h⟩ := h3 j _ (List.getElem?_eq_getElem hj)
    cases e; exact ⟨ad, cp, h⟩
/-- A call's cells, the calls' cells. -/
def cellsO (l : List (Opr × Value)) : List Value := l.flatMap fun p => [.int .i64 p.1.kind, .string (S p.1.path), .string (S p.1.dest), .int .i64 p.1.off, .int .i64 p.1.len, p.2]
theorem cellsO_snoc (l : List (Opr × Value)) (p : Opr × Value) : cellsO (l ++ [p]) = cellsO l ++ [.int .i64 p.1.kind, .string (S p.1.path), .string (S p.1.dest), .int .i64 p.1.off, .int .i64 p.1.len, p.2] := by
  unfold cellsO; simp
theorem cellsO_at : ∀ (l : List (Opr × Value)) (j : Nat) (p : Opr × Value), l[j]? = some p → (cellsO l)[j * 6]? = some (.int .i64 p.1.kind) ∧ (cellsO l)[j * 6 + 1]? = some (.string (S p.1.path)) ∧ (cellsO l)[j * 6 + 2]? = some (.string (S p.1.dest)) ∧
    (cellsO l)[j * 6 + 3]? = some (.int .i64 p.1.off) ∧ (cellsO l)[j * 6 + 4]? = some (.int .i64 p.1.len) ∧ (cellsO l)[j * 6 + 5]? = some p.2
  | [], j, e, h => by simp at h
  | x :: l, 0, e, h => by
    simp at h; subst h
    exact ⟨rfl, rfl, rfl, rfl, rfl, rfl⟩
  | x :: l, j + 1, e, h => by
    have ih := cellsO_at l j e (by simpa using h)
    have hc : ∀ i, (cellsO (x :: l))[i + 6]? = (cellsO l)[i]? := fun i => by
      show ([_, _, _, _, _, _] ++ cellsO l)[i + 6]? = _
      rw [List.getElem?_append_right (by simp)]; simp
    refine ⟨?_, ?_, ?_, ?_, ?_, ?_⟩
    · rw [show (j + 1) * 6 = j * 6 + 6 by omega, hc]; exact ih.1
    · rw [show (j + 1) * 6 + 1 = j * 6 + 1 + 6 by omega, hc]; exact ih.2.1
    · rw [show (j + 1) * 6 + 2 = j * 6 + 2 + 6 by omega, hc]; exact ih.2.2.1
    · rw [show (j + 1) * 6 + 3 = j * 6 + 3 + 6 by omega, hc]; exact ih.2.2.2.1
    · rw [show (j + 1) * 6 + 4 = j * 6 + 4 + 6 by omega, hc]; exact ih.2.2.2.2.1
    · rw [show (j + 1) * 6 + 5 = j * 6 + 5 + 6 by omega, hc]; exact ih.2.2.2.2.2
theorem cellsO_one (l : List (Opr × Value)) (h : ∀ p ∈ l, ∃ a n c, p.2 = .slice a n c) : ∀ u ∈ cellsO l, u.oneCell' = true := by
  intro u hu
  unfold cellsO at hu
  obtain ⟨p, hp, hu⟩ := List.mem_flatMap.1 hu
  obtain ⟨a, n, c, e⟩ := h p hp
  rw [e] at hu
  simp only [List.mem_cons, List.not_mem_nil, or_false] at hu
  rcases hu with rfl | rfl | rfl | rfl | rfl | rfl <;> rfl
theorem RdO.of_own {W : World} {B : Nat} {v : Value} {ds : List (Opr × Value)} (h : W.ownsRow B 44 6 v ds.length (cellsO ds)) (hd : ∀ p ∈ ds, RdB W p.2 p.1.data) : RdO W v (ds.map Prod.fst) := by
  have h' := h
  obtain ⟨_, ⟨rfl, h0⟩ | ⟨g, cap, cur, rfl, hg, hh, hc, hm, hs, ht⟩⟩ := h
  · refine ⟨none, 0, by rw [List.length_map, h0], by rw [List.length_map]; omega, fun j x hj => ?_⟩
    have : ds = [] := List.eq_nil_of_length_eq_zero h0
    subst this; simp at hj
  · refine ⟨_, cap, by rw [List.length_map], by rw [List.length_map]; exact hc, fun j x hj => ?_⟩
    rw [List.getElem?_map] at hj
    obtain ⟨p, hp, rfl⟩ := Option.map_eq_some_iff.1 hj
    have hr := hd p (List.mem_of_getElem? hp)
    obtain ⟨ad, cp, e⟩ := hr.len
    obtain ⟨a0, a1, a2, a3, a4, a5⟩ := cellsO_at ds j p hp
    rw [e] at a5 hr
    have hk : ∀ (i : Nat) (u : Value), (cellsO ds)[i]? = some u → W.cell? ⟨g, 0 + i, none⟩ = some u := fun i u hu => by
      have := h'.cells (g := g) rfl i u hu
      simpa [Addr.add] using (by
        by_cases h0 : i = 0
        · subst h0; simpa [Addr.add] using this
        · simpa [Addr.add, h0] using this)
    exact ⟨g, 0, ad, cp, rfl, (h'.lt g rfl).2, hk _ _ a0, by rw [Nat.add_assoc]; exact hk _ _ a1, by rw [Nat.add_assoc]; exact hk _ _ a2, by rw [Nat.add_assoc]; exact hk _ _ a3, by rw [Nat.add_assoc]; exact hk _ _ a4, by rw [Nat.add_assoc]; exact hk _ _ a5, hr⟩
theorem infoOp : (Tryd.prog.info? 44).map (fun i => (i.zero, i.size, i.bytes)) = some (some (.agg #[.int .i64 0, .string ⟨#[]⟩, .string ⟨#[]⟩, .int .i64 0, .int .i64 0, .slice none 0 0]), 6, 80) := by kernel_rfl
end Go.Proofs.YtpoongljokbgcaaDoor
/- The text of calls (trace.Text). -/
namespace Go.Proofs.YtpoongljokbgcaaDoor
open Go.RowKit
/-- What a call may hold so that its line can be. -/
structure Opr.small (o : Opr) : Prop where
  ok : o.ok
  path : o.path.length ≤ 4000000
  dest : o.dest.length ≤ 4000000
  data : o.data.length ≤ 4000000
/-- A text, a number and an error. -/
def TextRes (r : List UInt8 × Int × Int) (w : World) (e : Ending) (w' : World) : Prop := e = .returned (.tuple #[.string (S r.1), .int .i64 r.2.1, .int .i64 r.2.2]) ∧ Below w.heap.size w w'
theorem textRes_mk {r : List UInt8 × Int × Int} {a : List UInt8} {n m : Int} {w : World} {e : Ending} {w' : World} (h : r = (a, n, m)) (he : e = .returned (.tuple #[.string (S a), .int .i64 n, .int .i64 m])) (hb : Below w.heap.size w w') : TextRes r w e w' := by
  subst h; exact ⟨he, hb⟩
theorem print_small (o : Opr) (h : o.small) : (Tr.print o).1.length ≤ 48000088 := by
  have := Tr.line_len o h.ok 4000000 h.path h.dest h.data
  unfold Tr.print
  split
  · simp
  · split
    · simp
    · omega
theorem print_smallAny (o : Opr) (h : o.small) (dv : Value) (w : World) (hG : Gl w) (hr : RdB w dv o.data) :
    Calls Tryd.prog 19 #[.agg #[.int .i64 o.kind, .string (S o.path), .string (S o.dest), .int .i64 o.off, .int .i64 o.len, dv]] w (TextNum (Tr.print o) w) :=
  print_any o dv w hG h.ok (by have := h.path; omega) (fun _ => by have := h.dest; omega) hr (fun _ => by have := Tr.line_len o h.ok 4000000 h.path h.dest h.data; omega)
theorem nl_cells (l : List UInt8) : Lib.strCells (S l ++ ⟨#[10]⟩) = Lib.byteCells (l ++ [10]) := by
  have : S l ++ ⟨#[10]⟩ = S (l ++ [10]) := S_append l [10]
  rw [this]; rfl
theorem byteCells_app (a b : List UInt8) : Lib.byteCells a ++ Lib.byteCells b = Lib.byteCells (a ++ b) := by simp [Lib.byteCells]
theorem isBuilder_below {T e : TypeId} {B b : Nat} {bs : List Value} {w w' : World} (h : Lib.IsBuilder T e B b bs w) (hb : Below w.heap.size w w') : Lib.IsBuilder T e B b bs w' := by
  rcases h with ⟨h1, v, h2, h3, h4⟩ | ⟨h1, v, h2, h3, h4⟩
  · exact .inl ⟨h1, v, (hb.block b (Array.getElem?_eq_some_iff.1 h2).1).trans h2, own_below h3 hb, h4⟩
  · exact .inr ⟨h1, v, (hb.block b (Array.getElem?_eq_some_iff.1 h2).1).trans h2, own_below h3 hb, h4⟩
set_option maxRecDepth 100000 in
set_option maxHeartbeats 4000000 in
theorem text_any (xs : List Opr) (v : Value) (w : World) (hG : Gl w) (ho : ∀ o ∈ xs, o.small) (hr : RdO w v xs) (hn : xs.length ≤ 100000) :
    Calls Tryd.prog 20 #[v] w (TextRes (Tr.text xs) w) := by
  have hat : xs ≠ [] → _ := hr.at
  obtain ⟨a, cap, rfl⟩ := hr.len
  replace hat := Lib.hid hat
  replace hr := Lib.hid hr
  replace ho := Lib.hid ho
  replace hG := Lib.hid hG
  go_enter Tryd.func20, Tryd.ntmps20
  go_wp2_with fail
  go_loopw [12] (fun i wr => ∃ (k : Nat) (b : List UInt8), k ≤ xs.length ∧ i = .int .i64 k ∧ Lib.IsBuilder 69 5 w.heap.size w.heap.size (Lib.byteCells b) wr ∧ Below w.heap.size w wr ∧ b.length ≤ 60000000 ∧ Tr.text xs = Tr.textF k b (xs.drop k))
    (fun i _ => xs.length - (intOf i).toNat)
  case atStart => exact ⟨0, [], Nat.zero_le _, rfl, Lib.fresh_isBuilder 69 5 w, (Below.refl _ _).alloc (Nat.le_refl _) _, by simp, rfl⟩
  case round =>
    obtain ⟨k, b, hk, rfl, hB, hW, hbl, hT⟩ := hrel
    have hsz := hW.size
    by_cases hlt : k < xs.length
    · have hne : xs ≠ [] := by intro h; rw [h] at hlt; simp at hlt
      obtain ⟨bk, o, cap', hv, hcap, hbk, hcell⟩ := hat.out hne
      cases hv
      obtain ⟨ad, cp, d0, d1, d2, d3, d4, d5, hd⟩ := hcell k hlt
      have hos := Lib.hid (ho.out xs[k] (List.getElem_mem hlt))
      have hdr := Lib.hid (show xs.drop k = xs[k] :: xs.drop (k + 1) from List.drop_eq_getElem_cons hlt)
      obtain ⟨x, hx⟩ : ∃ x, xs[k] = x := ⟨_, rfl⟩
      rw [hx] at d0 d1 d2 d3 d4 d5 hd hos hdr
      replace hx := Lib.hid hx
      have hpl := print_small x hos.out
      have hpr := fun W hG hr => print_smallAny x hos.out (.slice ad x.data.length cp) W hG hr
      rw [← hW.cell (p := ⟨bk, o + k * 6, none⟩) hbk] at d0
      rw [← hW.cell (p := ⟨bk, o + k * 6 + 1, none⟩) hbk] at d1
      rw [← hW.cell (p := ⟨bk, o + k * 6 + 2, none⟩) hbk] at d2
      rw [← hW.cell (p := ⟨bk, o + k * 6 + 3, none⟩) hbk] at d3
      rw [← hW.cell (p := ⟨bk, o + k * 6 + 4, none⟩) hbk] at d4
      rw [← hW.cell (p := ⟨bk, o + k * 6 + 5, none⟩) hbk] at d5
      replace hd := Lib.hid (hd.below hW)
      obtain ⟨⟨line, er⟩, hp⟩ : ∃ p, Tr.print x = p := ⟨_, rfl⟩
      rw [hp] at hpl hpr
      dsimp only at hpl
      replace hpr := Lib.hid hpr
      replace hp := Lib.hid hp
      replace hcell := Lib.hid hcell
      clear hne hat hcell
      obtain ⟨xk, xp, xt, xf, xn, xl⟩ := x
      dsimp only at d0 d1 d2 d3 d4 d5
      have hal : Below wr.heap.size wr (wr.alloc (.cells #[.int .i64 xk, .string (S xp), .string (S xt), .int .i64 xf, .int .i64 xn, .slice ad xl.length cp] 44)) := (Below.refl _ _).alloc (Nat.le_refl _) _
      have hX := Lib.hid (Box.new wr 44 #[.int .i64 xk, .string (S xp), .string (S xt), .int .i64 xf, .int .i64 xn, .slice ad xl.length cp])
      replace hB := Lib.hid hB
      replace hT := Lib.hid hT
      replace hdr := Lib.hid hdr
      have hWa := Lib.hid (hW.alloc hsz (.cells #[.int .i64 xk, .string (S xp), .string (S xt), .int .i64 xf, .int .i64 xn, .slice ad xl.length cp] 44))
      replace hW := Lib.hid hW
      replace hal := Lib.hid hal
      go_wp2_with fail
      refine (hpr.out _ (hG.out.below hWa.out) (hd.out.below hal.out)).mono ?_
      rintro e w1 ⟨rfl, hb1⟩
      have hW1 := Lib.hid (hWa.out.trans (hb1.mono hWa.out.size))
      have hB1 := Lib.hid (isBuilder_below (isBuilder_below hB.out hal.out) hb1)
      replace hb1 := Lib.hid hb1
      by_cases he : er = 0
      · subst he
        have hT1 := Lib.hid (show Tr.text xs = Tr.textF (k + 1) (Tr.addT b ⟨xk, xp, xt, xf, xn, xl⟩) (xs.drop (k + 1)) by
          rw [hT.out, hdr.out, Tr.textF, if_neg (by rw [hp.out]; simp)])
        go_wp2_with fail
        refine (Tryd.Builder_Len _ _ _ _ hB1.out).mono ?_
        rintro e w0 ⟨rfl, rfl⟩
        by_cases hle : b.length ≤ 65536
        · have hle' : (((Lib.byteCells b).length : Nat) : Int) ≤ 65536 := by rw [Lib.byteCells_length]; omega
          have hadd := Lib.hid (show Tr.addT b ⟨xk, xp, xt, xf, xn, xl⟩ = b ++ (line ++ [10]) by unfold Tr.addT; rw [if_pos hle, hp.out])
          have hlt1 := Lib.hid (show (b ++ (line ++ [10])).length ≤ 60000000 by simp only [List.length_append, List.length_cons, List.length_nil]; omega)
          go_wp2_with fail
          refine (writeString_any w.heap.size w.heap.size _ _ _ hB1.out ?_ hW1.out.size).mono ?_
          · rw [Lib.byteCells_length, ByteArray.size_append, S_size]
            have : (⟨#[10]⟩ : ByteArray).size = 1 := rfl
            omega
          rintro e w2 ⟨rfl, hB2, hb2⟩
          rw [nl_cells, byteCells_app] at hB2
          replace hB2 := Lib.hid hB2
          have hW2 := Lib.hid (hW1.out.trans hb2)
          replace hb2 := Lib.hid hb2
          go_wp2_with fail
          go_roundw
          case rel => exact ⟨k + 1, b ++ (line ++ [10]), by omega, by go_num, .inr hB2.out, hW2.out, hlt1.out, by rw [hT1.out, hadd.out]⟩
          case measure => simp [intOf]; omega
        · have hle' : ¬ (((Lib.byteCells b).length : Nat) : Int) ≤ 65536 := by rw [Lib.byteCells_length]; omega
          have hadd := Lib.hid (show Tr.addT b ⟨xk, xp, xt, xf, xn, xl⟩ = b by unfold Tr.addT; rw [if_neg hle])
          go_wp2_with fail
          go_roundw
          case rel => exact ⟨k + 1, b, by omega, by go_num, hB1.out, hW1.out, by omega, by rw [hT1.out, hadd.out]⟩
          case measure => simp [intOf]; omega
      · have hT1 := Lib.hid (show Tr.text xs = ([], (k : Int), er) by
          rw [hT.out, hdr.out, Tr.textF, if_pos (by rw [hp.out]; exact he), hp.out])
        have he1 : (er == 0) = false := by simpa using he
        have he2 : (er != 0) = true := by simpa using he
        replace he := Lib.hid he
        go_wp2_with fail
        refine bodyPost_ret (results_tmp3 rfl _ _ _) rfl ?_
        exact textRes_mk hT1.out rfl hW1.out
    · have hk' : k = xs.length := by omega
      subst hk'
      have hT1 : Tr.text xs = Tr.textF xs.length b [] := by rw [hT, List.drop_length]
      rw [Tr.textF] at hT1
      replace hT := Lib.hid hT
      by_cases hle : 65536 < b.length
      · rw [if_pos hle] at hT1
        have hle' : (65536 : Int) < (((Lib.byteCells b).length : Nat) : Int) := by rw [Lib.byteCells_length]; omega
        replace hT1 := Lib.hid hT1
        replace hB := Lib.hid hB
        go_wp2_with fail
        refine (Tryd.Builder_Len _ _ _ _ hB.out).mono ?_
        rintro e w0 ⟨rfl, rfl⟩
        go_wp2_with fail
        go_ret3
        exact textRes_mk hT1.out rfl hW
      · rw [if_neg hle] at hT1
        have hle' : ¬ (65536 : Int) < (((Lib.byteCells b).length : Nat) : Int) := by rw [Lib.byteCells_length]; omega
        replace hT1 := Lib.hid hT1
        replace hB := Lib.hid hB
        go_wp2_with fail
        refine (Tryd.Builder_Len _ _ _ _ hB.out).mono ?_
        rintro e w0 ⟨rfl, rfl⟩
        go_wp2_with fail
        refine (Tryd.Builder_String_any _ _ _ _ hB.out hsz).mono ?_
        rintro e w3 ⟨rfl, hb3⟩
        go_wp2_with fail
        go_ret3
        exact textRes_mk hT1.out rfl (hW.trans hb3)
end Go.Proofs.YtpoongljokbgcaaDoor
/- Arguments as plain data: a slice of calls, and how much it holds. -/
namespace Go.Proofs.YtpoongljokbgcaaDoor
open Go.ChangeShapes Go.WideShapes Go.ChangeAt Go.RowKit
section
variable {H : Type} {enc : TypeId × Value → H} {W : World} {base : Nat} {sp : Nat → Bool} {held : Bool}
theorem bulk_lits (k : IntKind) (zs : List Int) : Rows.uptoBulkAll (lits (H := H) k zs) = zs.length := by
  induction zs with
  | nil => rfl
  | cons z zs ih =>
    show Rows.uptoBulk (DataW.lit (.int k z)) + Rows.uptoBulkAll (lits k zs) = _
    rw [ih]; simp [Rows.uptoBulk]; omega
theorem open_bytes_b {fuel : Nat} {c : Value} {x : DataW H × List MemPlace} (hsp : ∀ b, sp b = true) (h : DataW.trod enc Tryd.prog W base sp held fuel 28 [c] = some x) :
    ∃ (l : List UInt8) (a : Option Addr) (cap : Nat), c = .slice a l.length cap ∧ RdB W (.slice a l.length cap) l ∧ l.length ≤ Rows.uptoBulk x.1 := by
  obtain ⟨l, a, cap, hc, hr⟩ := open_bytes hsp h
  refine ⟨l, a, cap, hc, hr, ?_⟩
  rcases open_ints Tryd.underlying28 Tryd.underlying5 (by kernel_rfl) h with ⟨hcs, hx⟩ | ⟨a', len, cap', zs, hcs, _, hl, hmx, hz, hx, hcell, hwz⟩
  · rw [hc] at hcs
    simp only [List.cons.injEq, Value.slice.injEq] at hcs
    omega
  · rw [hc] at hcs
    simp only [List.cons.injEq, Value.slice.injEq] at hcs
    rw [hsp a'.block, if_pos rfl] at hz
    rw [hx]
    simp only [Rows.uptoBulk, bulk_lits]
    rw [List.length_take, List.length_drop]
    omega
set_option maxRecDepth 100000 in
theorem open_ops {fuel : Nat} {c : Value} {x : DataW H × List MemPlace} (hsp : ∀ b, sp b = true) (h : DataW.trod enc Tryd.prog W base sp held fuel 42 [c] = some x) :
    ∃ (xs : List Opr) (a : Option Addr) (cap : Nat), c = .slice a xs.length cap ∧ RdO W (.slice a xs.length cap) xs ∧ ∀ o ∈ xs, o.ok ∧ o.path.length ≤ Rows.uptoBulk x.1 ∧ o.dest.length ≤ Rows.uptoBulk x.1 ∧ o.data.length ≤ Rows.uptoBulk x.1 := by
  have h6 : Tryd.prog.cellsOf 44 = 6 := by kernel_rfl
  have k3 : Tryd.prog.cellsOf 3 = 1 := by kernel_rfl
  have k9 : Tryd.prog.cellsOf 9 = 1 := by kernel_rfl
  have k2 : Tryd.prog.cellsOf 2 = 1 := by kernel_rfl
  have k28 : Tryd.prog.cellsOf 28 = 1 := by kernel_rfl
  rcases Go.Deep.open_slice Tryd.underlying42 h with ⟨hcs, hx⟩ | ⟨a, len, cap, m, n, D, Pl, hcs, _, hl, hmx, hm, hx, hi⟩
  · simp at hcs; subst hcs
    exact ⟨[], none, 0, rfl, RdO.nil _, fun e he => by simp at he⟩
  · simp at hcs; subst hcs
    have hlm : len ≤ m := by rw [hm]; split <;> omega
    have hE : ∀ i, i < m → ∃ (o : Opr) (ad : Option Addr) (cp : Nat), o.ok ∧ W.cell? (a.add (i * 6)) = some (.int .i64 o.kind) ∧ W.cell? (a.add (i * 6 + 1)) = some (.string (S o.path)) ∧ W.cell? (a.add (i * 6 + 2)) = some (.string (S o.dest)) ∧
        W.cell? (a.add (i * 6 + 3)) = some (.int .i64 o.off) ∧ W.cell? (a.add (i * 6 + 4)) = some (.int .i64 o.len) ∧ W.cell? (a.add (i * 6 + 5)) = some (.slice ad o.data.length cp) ∧ RdB W (.slice ad o.data.length cp) o.data ∧
        o.path.length ≤ Rows.uptoBulk (D i) ∧ o.dest.length ≤ Rows.uptoBulk (D i) ∧ o.data.length ≤ Rows.uptoBulk (D i) := by
      intro i him
      obtain ⟨cs, hcs, htr⟩ := hi i him
      rw [h6] at hcs
      obtain ⟨_, hcl, hat⟩ := World.cells?_some hcs
      obtain ⟨ys, n', _, hy, _, hyl, hf⟩ := DataW.trod_struct Tryd.underlying44 htr
      match cs, hcl, ys, hyl with
      | [u0, u1, u2, u3, u4, u5], _, [z0, z1, z2, z3, z4, z5], _ =>
      have q0 : DataW.trod enc Tryd.prog W base sp held n' 3 (([u0, u1, u2, u3, u4, u5].drop 0).take (Tryd.prog.cellsOf 3)) = some z0 := hf 0 _ rfl
      have q1 : DataW.trod enc Tryd.prog W base sp held n' 9 (([u0, u1, u2, u3, u4, u5].drop 1).take (Tryd.prog.cellsOf 9)) = some z1 := hf 1 _ rfl
      have q2 : DataW.trod enc Tryd.prog W base sp held n' 9 (([u0, u1, u2, u3, u4, u5].drop 2).take (Tryd.prog.cellsOf 9)) = some z2 := hf 2 _ rfl
      have q3 : DataW.trod enc Tryd.prog W base sp held n' 2 (([u0, u1, u2, u3, u4, u5].drop 3).take (Tryd.prog.cellsOf 2)) = some z3 := hf 3 _ rfl
      have q4 : DataW.trod enc Tryd.prog W base sp held n' 2 (([u0, u1, u2, u3, u4, u5].drop 4).take (Tryd.prog.cellsOf 2)) = some z4 := hf 4 _ rfl
      have q5 : DataW.trod enc Tryd.prog W base sp held n' 28 (([u0, u1, u2, u3, u4, u5].drop 5).take (Tryd.prog.cellsOf 28)) = some z5 := hf 5 _ rfl
      rw [k3] at q0
      rw [k9] at q1 q2
      rw [k2] at q3 q4
      rw [k28] at q5
      have c0 := hat 0 (by simp)
      have c1 := hat 1 (by simp)
      have c2 := hat 2 (by simp)
      have c3 := hat 3 (by simp)
      have c4 := hat 4 (by simp)
      have c5 := hat 5 (by simp)
      rw [Go.Deep.add_add] at c0 c1 c2 c3 c4 c5
      obtain ⟨kd, e0, r0, w0⟩ := DataW.trod_int Tryd.underlying3 q0
      obtain ⟨s1, e1, r1, _⟩ := DataW.trod_string Tryd.underlying9 q1
      obtain ⟨s2, e2, r2, _⟩ := DataW.trod_string Tryd.underlying9 q2
      obtain ⟨of, e3, r3, w3⟩ := DataW.trod_int Tryd.underlying2 q3
      obtain ⟨ln, e4, r4, w4⟩ := DataW.trod_int Tryd.underlying2 q4
      obtain ⟨l, da, dc, e5, hd, hb⟩ := open_bytes_b hsp q5
      obtain rfl : u0 = .int .i64 kd := by simpa using e0
      obtain rfl : u1 = .string s1 := by simpa using e1
      obtain rfl : u2 = .string s2 := by simpa using e2
      obtain rfl : u3 = .int .i64 of := by simpa using e3
      obtain rfl : u4 = .int .i64 ln := by simpa using e4
      subst e5
      have hS : ∀ s : ByteArray, S s.data.toList = s := fun s => by unfold S; simp
      simp only [Prod.mk.injEq] at hy
      have hbulk : Rows.uptoBulk (D i) = Rows.uptoBulk z0.1 + (Rows.uptoBulk z1.1 + (Rows.uptoBulk z2.1 + (Rows.uptoBulk z3.1 + (Rows.uptoBulk z4.1 + (Rows.uptoBulk z5.1 + 0))))) + 1 := by
        rw [hy.1]; rfl
      have b1 : Rows.uptoBulk z1.1 = s1.data.toList.length + 1 := by rw [r1]; rfl
      have b2 : Rows.uptoBulk z2.1 = s2.data.toList.length + 1 := by rw [r2]; rfl
      exact ⟨⟨kd, s1.data.toList, s2.data.toList, of, ln, l⟩, da, dc, ⟨in64_of w0, in64_of w3, in64_of w4⟩, c0, by rw [hS]; exact c1, by rw [hS]; exact c2, c3, c4, c5, hd, by show s1.data.toList.length ≤ _; omega, by show s2.data.toList.length ≤ _; omega, by show l.length ≤ _; omega⟩
    have hch : ∃ f : Nat → Opr, ∀ i, i < m → ∃ (ad : Option Addr) (cp : Nat), (f i).ok ∧ W.cell? (a.add (i * 6)) = some (.int .i64 (f i).kind) ∧ W.cell? (a.add (i * 6 + 1)) = some (.string (S (f i).path)) ∧ W.cell? (a.add (i * 6 + 2)) = some (.string (S (f i).dest)) ∧
        W.cell? (a.add (i * 6 + 3)) = some (.int .i64 (f i).off) ∧ W.cell? (a.add (i * 6 + 4)) = some (.int .i64 (f i).len) ∧ W.cell? (a.add (i * 6 + 5)) = some (.slice ad (f i).data.length cp) ∧ RdB W (.slice ad (f i).data.length cp) (f i).data ∧
        (f i).path.length ≤ Rows.uptoBulk (D i) ∧ (f i).dest.length ≤ Rows.uptoBulk (D i) ∧ (f i).data.length ≤ Rows.uptoBulk (D i) :=
      ⟨fun i => if h : i < m then (hE i h).choose else Tr.zero, fun i him => by
        simp only [him, dite_true]; exact (hE i him).choose_spec⟩
    obtain ⟨f, hf⟩ := hch
    have hxl : ((List.range len).map f).length = len := by simp
    have hD : ∀ i, i < len → Rows.uptoBulk (D i) ≤ Rows.uptoBulk x.1 := by
      intro i hi'
      have hall : ∀ l : List Nat, i ∈ l → Rows.uptoBulk (D i) ≤ Rows.uptoBulkAll (l.map D) := by
        intro l
        induction l with
        | nil => intro h; simp at h
        | cons j l ih =>
          intro h
          simp only [List.map_cons, Rows.uptoBulkAll]
          rcases List.mem_cons.1 h with rfl | h
          · omega
          · have := ih h; omega
      have := hall (List.range len) (List.mem_range.2 hi')
      rw [hx]
      simp only [Rows.uptoBulk]
      omega
    refine ⟨(List.range len).map f, some a, cap, by rw [hxl], ⟨some a, cap, rfl, by omega, fun j y hj => ?_⟩, ?_⟩
    · have hjl : j < len := by have := (List.getElem?_eq_some_iff.1 hj).1; simpa using this
      obtain rfl : f j = y := by simpa [hjl] using hj
      obtain ⟨ad, cp, _, d0, d1, d2, d3, d4, d5, hd, _⟩ := hf j (by omega)
      have hs := World.cell?_spot (hf 0 (by omega)).choose_spec.choose_spec.2.1
      obtain ⟨b, o, spot⟩ := a
      have : spot = none := by simpa [Addr.add] using hs
      subst this
      have he : ∀ k, (⟨b, o, none⟩ : Addr).add k = ⟨b, o + k, none⟩ := fun k => by unfold Addr.add; split <;> simp_all
      rw [he] at d0 d1 d2 d3 d4 d5
      exact ⟨b, o, ad, cp, rfl, cell_lt d0, d0, by rw [Nat.add_assoc]; exact d1, by rw [Nat.add_assoc]; exact d2, by rw [Nat.add_assoc]; exact d3, by rw [Nat.add_assoc]; exact d4, by rw [Nat.add_assoc]; exact d5, hd⟩
    · intro e he
      obtain ⟨i, hi', rfl⟩ := List.mem_map.1 he
      have hil := List.mem_range.1 hi'
      obtain ⟨_, _, h1, _, _, _, _, _, _, _, h2, h3, h4⟩ := hf i (by omega)
      have := hD i hil
      exact ⟨h1, by omega, by omega, by omega⟩
set_option maxRecDepth 100000 in
theorem open_ops_arg {r : Reach} {b0 : Nat} {v : Value} {d : DataW H} {p : List MemPlace}
    (hv : Value.okWide Tryd.prog W r b0 42 v) (h : DataW.Trod enc Tryd.prog W base (fun _ => true) held 42 v d p) :
    ∃ (xs : List Opr) (a : Option Addr) (cap : Nat), v = .slice a xs.length cap ∧ RdO W (.slice a xs.length cap) xs ∧ ∀ o ∈ xs, o.ok ∧ o.path.length ≤ Rows.uptoBulk d ∧ o.dest.length ≤ Rows.uptoBulk d ∧ o.data.length ≤ Rows.uptoBulk d := by
  obtain ⟨a, n, c, rfl⟩ := okWide_slice Tryd.underlying42 hv
  obtain ⟨fuel, hf⟩ := h
  obtain ⟨xs, a', cap, e, hr, hk⟩ := open_ops (fun _ => rfl) (show DataW.trod enc Tryd.prog W base (fun _ => true) held fuel 42 [.slice a n c] = some (d, p) from hf)
  exact ⟨xs, a', cap, e, hr, hk⟩
end
end Go.Proofs.YtpoongljokbgcaaDoor
namespace Go.Proofs.YtpoongljokbgcaaDoor
open Go.RowKit
theorem unq_bad {l : List UInt8} (h : (Tr.uq l).2 = false) (hl : l ≠ [37]) : Tr.unq l = none := by
  refine unq_no fun he => ?_
  by_cases hb : (Tr.uq l).1 = []
  · rw [hb] at he; exact hl (by rw [← he]; rfl)
  · have : Tr.uq l = ((Tr.uq l).1, true) := by
      have h1 := Tr.uq_flat (Tr.uq l).1
      have h2 : Tr.quo (Tr.uq l).1 = (Tr.uq l).1.flatMap Tr.quo1 := by unfold Tr.quo; rw [if_neg hb]
      rw [← h2, he] at h1; exact h1
    rw [this] at h; cases h
theorem hexr_eq (c : UInt8) (x : Int) (w : World) (h : Lib.indexByte Tr.dgs c = x) : Calls Tryd.prog 38 #[.int .u8 c.toNat] w fun e w' => e = .returned (.int .i64 x) ∧ w = w' := by
  rw [← h]; exact (hexr_any c w).mono fun _ _ ⟨a, b⟩ => ⟨a, b.symm⟩
theorem get_at (p : List UInt8) (c : UInt8) (r l : List UInt8) (h : l = p ++ c :: r) (hlt : p.length < l.length) : l[p.length] = c := by subst h; simp
theorem get_at1 (p : List UInt8) (b c : UInt8) (r l : List UInt8) (h : l = p ++ b :: c :: r) (hlt : p.length + 1 < l.length) : l[p.length + 1] = c := by
  subst h; simp
theorem get_at2 (p : List UInt8) (a b c : UInt8) (r l : List UInt8) (h : l = p ++ a :: b :: c :: r) (hlt : p.length + 2 < l.length) : l[p.length + 2] = c := by
  subst h; simp
set_option maxRecDepth 100000 in
set_option maxHeartbeats 2000000 in
theorem unquoter_any (l : List UInt8) (w : World) (hl : 3 * l.length ≤ 140737488355328) :
    Calls Tryd.prog 11 #[.string (S l)] w (TextErr (Tr.unq l) 270 w) := by
  by_cases h37 : l = [37]
  · subst h37
    go_enter Tryd.func11, Tryd.ntmps11
    go_wp2_with fail
    go_ret2
    exact ⟨rfl, Below.refl _ _⟩
  have h37' : (l == [37]) = false := by simpa using h37
  obtain ⟨i0, hi0, hz0, hz1, hz2⟩ := info_parts infoByte
  go_enter Tryd.func11, Tryd.ntmps11
  go_wp2_with fail
  go_loopw [4, 5] (fun b k wr => ∃ acc pre rest : List UInt8, l = pre ++ rest ∧ k = .int .i64 pre.length ∧ wr.ownsRow w.heap.size 5 1 b acc.length (Lib.byteCells acc) ∧ Below w.heap.size w wr ∧ acc.length ≤ pre.length ∧ Tr.uq l = (acc ++ (Tr.uq rest).1, (Tr.uq rest).2))
    (fun _ k _ => l.length - (intOf k).toNat)
  case atStart => exact ⟨[], [], l, rfl, rfl, World.ownsRow_nil _ _ _ _, Below.refl _ _, by simp, by simp⟩
  case round =>
    obtain ⟨acc, pre, rest, hpre, rfl, hown, hW, hlen, hu⟩ := hrel
    have hsz := hW.size
    have hll : l.length = pre.length + rest.length := by rw [hpre]; simp
    cases rest with
    | nil =>
      rw [Tr.uq_nil, List.append_nil] at hu
      simp only [List.length_nil, Nat.add_zero] at hll
      replace hpre := Lib.hid hpre
      replace hu := Lib.hid hu
      have hll' : ¬ ((pre.length : Int) < l.length) := by omega
      have hcv := convert_rd (P := Tryd.prog) Tryd.underlying28 Tryd.underlying5 Tryd.underlying9 (Rd.of_own hown)
      by_cases hn : l = []
      · have hn' : (l == []) = true := by simpa using hn
        replace hn := Lib.hid hn
        go_wp2_with fail
        go_ret2
        exact ⟨by rw [hn.out]; rfl, hW⟩
      · have hn' : (l == []) = false := by simpa using hn
        go_wp2_with fail
        refine (quoter_any acc _ (by omega)).mono ?_
        rintro e w1 ⟨rfl, hb1⟩
        have hcv1 := convert_rd (P := Tryd.prog) Tryd.underlying28 Tryd.underlying5 Tryd.underlying9 ((Rd.of_own hown).below hb1)
        by_cases hq : Tr.quo acc = l
        · have hq' : (Tr.quo acc == l) = true := by simpa using hq
          replace hq := Lib.hid hq
          go_wp2_with fail
          go_ret2
          exact ⟨by rw [unq_yes (by rw [hu.out]; exact hq.out)]; rw [hu.out]; rfl, hW.trans (hb1.mono hsz)⟩
        · have hq' : (Tr.quo acc == l) = false := by simpa using hq
          replace hq := Lib.hid hq
          go_wp2_with fail
          go_ret2
          exact ⟨by rw [unq_no (by rw [hu.out]; exact hq.out)]; rfl, hW.trans (hb1.mono hsz)⟩
    | cons c r =>
      rw [List.length_cons] at hll
      have hlt : pre.length < l.length := by omega
      have g0 := get_at pre c r l hpre hlt
      by_cases hc : c = 37
      · subst hc
        by_cases hr : r.length < 2
        · rw [Tr.uq_short r hr] at hu
          have hbad := Lib.hid (unq_bad (l := l) (by rw [hu]) h37)
          clear hu
          replace hpre := Lib.hid hpre
          replace hll := Lib.hid hll
          have ht : (l.length : Int) ≤ (pre.length : Int) + 2 := by have := hll.out; omega
          go_wp2_with fail
          go_ret2
          exact ⟨by rw [hbad.out]; rfl, hW⟩
        obtain ⟨a, b, r', rfl⟩ : ∃ a b r', r = a :: b :: r' := by
          match r, hr with
          | a :: b :: r', _ => exact ⟨a, b, r', rfl⟩
          | [], h => simp at h
          | [_], h => simp at h
        simp only [List.length_cons] at hll
        have hlt2 : pre.length + 2 < l.length := by omega
        have hlt1 : pre.length + 1 < l.length := by omega
        have g1 := get_at1 pre 37 a _ l hpre hlt1
        have g2 := get_at2 pre 37 a b r' l hpre hlt2
        replace hll := Lib.hid hll
        cases hd : Tr.unh a b with
        | none =>
          rw [Tr.uq_none a b r' hd] at hu
          have hbad := Lib.hid (unq_bad (l := l) (by rw [hu]) h37)
          clear hu
          replace hpre := Lib.hid hpre
          have hx : ¬ (Tr.nib a < 16 ∧ Tr.nib b < 16) := by
            intro h; unfold Tr.unh at hd; rw [if_pos h] at hd; cases hd
          clear hd
          by_cases ha : Tr.nib a < 16
          · have hb : ¬ Tr.nib b < 16 := fun h => hx ⟨ha, h⟩
            have h1 := Lib.hid (index_lt a ha)
            have h2 := Lib.hid (index_ge b hb)
            clear hx hb
            go_wp2_with fail
            refine (hexr_eq a _ _ h1.out).mono ?_
            rintro e w0 ⟨rfl, rfl⟩
            go_wp2_with fail
            refine (hexr_eq b _ _ h2.out).mono ?_
            rintro e w0 ⟨rfl, rfl⟩
            go_wp2_with fail
            go_ret2
            exact ⟨by rw [hbad.out]; rfl, hW⟩
          · have h1 := Lib.hid (index_ge a ha)
            clear hx ha
            go_wp2_with fail
            refine (hexr_eq a _ _ h1.out).mono ?_
            rintro e w0 ⟨rfl, rfl⟩
            go_wp2_with fail
            go_ret2
            exact ⟨by rw [hbad.out]; rfl, hW⟩
        | some d =>
          rw [Tr.uq_some a b d r' hd] at hu
          replace hu := Lib.hid hu
          replace hpre := Lib.hid hpre
          have hx : Tr.nib a < 16 ∧ Tr.nib b < 16 := by
            by_cases hx : Tr.nib a < 16 ∧ Tr.nib b < 16
            · exact hx
            · unfold Tr.unh at hd; rw [if_neg hx] at hd; cases hd
          have H := Lib.hid (show 16 * Tr.nib a + Tr.nib b = d.toNat by
            unfold Tr.unh at hd; rw [if_pos hx] at hd; rw [← Option.some.inj hd]; simp; omega)
          clear hd
          obtain ⟨ha, hb⟩ := hx
          have h1 := Lib.hid (index_lt a ha)
          have h2 := Lib.hid (index_lt b hb)
          obtain ⟨x, hx⟩ : ∃ x, Tr.nib a = x := ⟨_, rfl⟩
          obtain ⟨y, hy⟩ : ∃ y, Tr.nib b = y := ⟨_, rfl⟩
          rw [hx] at h1 ha H; rw [hy] at h2 hb H
          clear hx hy
          have e1 := u8_in (16 * (x : Int) + y) (by omega)
          go_wp2_with fail
          refine (hexr_eq a _ _ h1.out).mono ?_
          rintro e w0 ⟨rfl, rfl⟩
          go_wp2_with fail
          refine (hexr_eq b _ _ h2.out).mono ?_
          rintro e w0 ⟨rfl, rfl⟩
          go_wp2_with fail
          have e2 := IntWalk.i64_in (16 * (x : Int)) (by omega)
          have e3 := IntWalk.i64_in (16 * (x : Int) + y) (by omega)
          have f1 := IntWalk.i64_in ((pre.length : Int) + 1) (by omega)
          have f2 := IntWalk.i64_in ((pre.length : Int) + 2) (by omega)
          have f3 : (0 : Int) ≤ (pre.length : Int) + 1 := by omega
          have f4 : (0 : Int) ≤ (pre.length : Int) + 2 := by omega
          have f5 : (pre.length : Int) + 1 < (l.length : Int) := by omega
          have f6 : (pre.length : Int) + 2 < (l.length : Int) := by omega
          have f7 : ((pre.length : Int) + 1).toNat = pre.length + 1 := by omega
          have f8 : ((pre.length : Int) + 2).toNat = pre.length + 2 := by omega
          have f9 : l.getD (pre.length + 1) 0 = a := by rw [← g1]; simp [hlt1]
          have f10 : l.getD (pre.length + 2) 0 = b := by rw [← g2]; simp [hlt2]
          go_region_held3 (fun _ => True) (exact trivial)
            (first
              | (go_at_call 38; (first | (with_reducible refine (hexr_eq a _ _ h1.out).mono ?_) | (with_reducible refine (hexr_eq b _ _ h2.out).mono ?_)); rintro e w0 ⟨rfl, rfl⟩)
              | (refine step_append_lies _ (by rfl) _ _ _ (by rfl) w.heap.size 5 i0 _ 1 1 Tryd.underlying28 hi0 hz0 hz1 hz2 rfl (by omega) _ acc.length (Lib.byteCells acc) (by rfl) ((hown.alloc _).drew) ⟨wr.heap.size, 0, none⟩ 1 1 [.int .u8 (16 * (x : Int) + y)] (by rfl) (by rfl) (World.news_of_block (cs := #[.int .u8 (16 * (x : Int) + y)]) (t := 5) (fr := (0, 0)) (heap_alloc_new wr _)) (by simp [Value.oneCell']) (by omega) (by unfold maxLen; omega) (by omega) (by simp; omega) (wr.heap.size + 1) (by simp) ?_; intro gg cap w1 hown1 hgrow hat hlt))
          all_goals
            go_wp2_with fail
            go_roundw
            case rel => exact ⟨acc ++ [d], pre ++ [37, a, b], r', by rw [hpre.out]; simp, by simp; omega, by rw [show (16 * (x : Int) + y) = (d.toNat : Int) from by have := H.out; omega] at hown1; simpa [Lib.byteCells] using hown1, below_push hW (Nat.le_refl _) hown hgrow, by simp; omega, by rw [hu.out]; simp⟩
            case measure => simp [intOf]; omega
      · have hcb : ((c.toNat : Int) != 37) = true := byte_bne c 37 hc
        rw [Tr.uq_bare c r hc] at hu
        replace hpre := Lib.hid hpre
        replace hu := Lib.hid hu
        replace hll := Lib.hid hll
        go_wp2_with (at_builtin; refine wpList_append_own _ rfl _ _ 28 rfl w.heap.size 5 i0 (.int .u8 0) 1 1 Tryd.underlying28 hi0 hz0 hz1 hz2 rfl (by decide) _ _ _ rfl (hown.alloc _) ⟨wr.heap.size, 0, none⟩ 1 1 [.int .u8 c.toNat] rfl rfl ?c1 ?c2 ?c3 ?c4 ?c5 ?_)
        case c2 => simp [Value.oneCell']
        case c3 => unfold maxLen; omega
        case c4 => omega
        case c5 => (first | omega | (simp; omega))
        intro v' w1 hown1 hgrow _
        go_wp2_with fail
        go_roundw
        case rel => exact ⟨acc ++ [c], pre ++ [c], r, by rw [hpre.out]; simp, by simp, by simpa [Lib.byteCells] using hown1, below_push' hW (Nat.le_refl _) hown hgrow, by simp; omega, by rw [hu.out]; simp⟩
        case measure => simp [intOf]; omega
end Go.Proofs.YtpoongljokbgcaaDoor
