/- DirentMap returns true. -/
import Derived.Test.YtmlgjmcenjbbeaaAz
import Derived.Test.YtmlgjmcenjbbeaaAt
import Derived.Deep.CutBlock
import Derived.Carry
namespace Go.Proofs.Ytmlgjmcenjbbeaa
open Go.RowKit
theorem RdC.take {α : Type} {f : α → List Value} {k : Nat} {W : World} {la : Option Addr} {n lc : Nat} {xs : List α} (h : RdC f k W (.slice la n lc) xs) (m : Nat) (hm : m ≤ xs.length) : RdC f k W (.slice la m lc) (xs.take m) := by
  obtain ⟨a, c, h1, h2, h3⟩ := h
  cases h1
  have hl : (xs.take m).length = m := by rw [List.length_take]; omega
  refine ⟨_, _, by rw [hl], by rw [hl]; omega, fun j x hj => ?_⟩
  have hlt := (List.getElem?_eq_some_iff.1 hj).1
  rw [hl] at hlt
  rw [List.getElem?_take_of_lt hlt] at hj
  exact h3 j x hj
theorem slice51 (la : Option Addr) (n lc k : Nat) (hk : k ≤ lc) (W : World) : (Instr.slice 51 (.slice la n lc) none (some (.int .i64 (k : Int))) none).run Try.prog W = .ok (.slice la k lc) W := by
  rw [run_slice_h W 51 la n lc (by kernel_rfl) .i64 k (by omega) (by omega)]
  rw [show (Go.sizeOf (Try.prog.elem 51)).run Try.prog W = .ok 4 W from by kernel_rfl]
  rcases la with _ | ⟨b, o, sp⟩ <;> simp [Result.andThen, sliced, Addr.add]
theorem rd_turned {W W' : World} {v : Value} {l : List UInt8} {M : Nat} (h : RdB W v l) (hg : W.grownBy W' (some M)) {es : Array MapEntry} {c : Nat} (hM : W.heap[M]? = some (.map es c)) : RdB W' v l := by
  obtain ⟨a, cap, h1, h2, h3⟩ := h
  refine ⟨a, cap, h1, h2, fun j x hj => ?_⟩
  obtain ⟨b, o, h4, h5, h6⟩ := h3 j x hj
  have hne : b ≠ M := by
    intro e; subst e
    simp [World.cell?, hM] at h6
  have hb : W'.heap[b]? = W.heap[b]? := hg.block b h5 (by simpa using hne)
  refine ⟨b, o, h4, Nat.lt_of_lt_of_le h5 hg.size, ?_⟩
  rw [← h6]
  unfold World.cell?
  dsimp only
  rw [hb]
/-- Between two changes: the block, its records, the law's own map. -/
structure MapSt (w : World) (Bm M n : Nat) (v : Value) (W : World) (bs : List UInt8) (L : List Rec) (D : DataW Unit) : Prop where
  rd : RdB W v bs
  rcs : Nm.recs bs = some L
  fo : Nm.FirstOnly L
  box : Box W Bm 52 #[.map (some M)]
  map : W.ownsMap Try.prog 9 entElem M n D
  rep : Nm.Rep D (Nm.entsOf L)
  lo : w.heap.size ≤ Bm ∧ w.heap.size ≤ M
  bel : Below w.heap.size w W
theorem MapSt.below {w W W' : World} {Bm M n : Nat} {v : Value} {bs : List UInt8} {L : List Rec} {D : DataW Unit} (h : MapSt w Bm M n v W bs L D) (hb : Below W.heap.size W W') : MapSt w Bm M n v W' bs L D :=
  ⟨h.rd.below hb, h.rcs, h.fo, h.box.below hb, map_below h.map hb, h.rep, h.lo, h.bel.trans (hb.mono h.bel.size)⟩
theorem MapSt.more {w W : World} {Bm M n : Nat} {v : Value} {bs : List UInt8} {L : List Rec} {D : DataW Unit} (h : MapSt w Bm M n v W bs L D) : MapSt w Bm M (n + 1) v W bs L D :=
  ⟨h.rd, h.rcs, h.fo, h.box, h.map.mono (by omega), h.rep, h.lo, h.bel⟩
/-- Behind a change of the map, with another block. -/
theorem MapSt.turned {w W W' : World} {Bm M n m : Nat} {v v' : Value} {bs bs' : List UInt8} {L L' : List Rec} {D D' : DataW Unit} (h : MapSt w Bm M n v W bs L D) (hg : W.grownBy W' (some M)) (hm : W'.ownsMap Try.prog 9 entElem M m D')
    (hr : RdB W v' bs') (hc : Nm.recs bs' = some L') (hf : Nm.FirstOnly L') (hp : Nm.Rep D' (Nm.entsOf L')) : MapSt w Bm M m v' W' bs' L' D' := by
  obtain ⟨es, c, hM, _⟩ := h.map
  have hbx := h.box
  have hne : Bm ≠ M := by intro e; subst e; unfold Box at hbx; rw [hM] at hbx; cases hbx
  exact ⟨rd_turned hr hg hM, hc, hf, h.box.grown hg (by simpa using hne), hm, hp, h.lo, h.bel.grown hg h.bel.size (fun k e => by cases e; exact h.lo.2)⟩
theorem MapSt.lt {w W : World} {Bm M n : Nat} {v : Value} {bs : List UInt8} {L : List Rec} {D : DataW Unit} (h : MapSt w Bm M n v W bs L D) : Bm < W.heap.size ∧ M < W.heap.size := ⟨h.box.lt, h.map.lt⟩
theorem MapSt.nodup {w W : World} {Bm M n : Nat} {v : Value} {bs : List UInt8} {L : List Rec} {D : DataW Unit} (h : MapSt w Bm M n v W bs L D) : ((Nm.entsOf L).map (·.name)).Nodup := (Nm.recs_iff.1 h.rcs).2.2
namespace Nm
theorem chk_vals (e : Ent) : chk e = 0 ∨ chk e = 161 ∨ chk e = 162 := by
  have hn : name e.name = 0 ∨ name e.name = 161 := by
    unfold name
    split
    · exact .inr rfl
    · split
      · exact .inr rfl
      · exact .inl rfl
  unfold chk
  split
  · rcases hn with h | h
    · exact absurd h ‹_›
    · exact .inr (.inl h)
  · split
    · exact .inr (.inr rfl)
    · exact .inl rfl
theorem ents_short {b : List UInt8} {L : List Rec} (h : recs b = some L) {e : Ent} (he : e ∈ entsOf L) : e.name.length ≤ 48 := by
  unfold entsOf at he
  obtain ⟨r, hr, rfl⟩ := List.mem_map.1 he
  obtain ⟨a, ha⟩ := (recs_all h).1 r ((List.mem_filter.1 hr).1)
  exact (one_is ha).name48
theorem ents_len {b : List UInt8} {L : List Rec} (h : recs b = some L) : (entsOf L).length ≤ 32 := Nat.le_trans (entsOf_len L) (recs_all h).2
theorem room_of {b : List UInt8} {L : List Rec} (h : recs b = some L) : room b = roomOf L := by unfold room; rw [h]; rfl
/-- A block without an entry has all room. -/
theorem room_all {b : List UInt8} {L : List Rec} (h : recs b = some L) (hf : FirstOnly L) (he : entsOf L = []) : room b = 48 := by
  rw [room_of h]
  obtain ⟨r0, rest, rfl, hr⟩ := hf
  have hp := (recs_iff.1 h).2.1
  rcases rest with _ | ⟨x, rest⟩
  · obtain ⟨h1, h2⟩ := hp
    have h2 : 0 + r0.len.toNat = 256 := h2
    have hi := one_is h1
    have h8 := hi.len8
    have h0 : r0.e.ino = 0 := by
      rcases Decidable.em (r0.e.ino = 0) with h | h
      · exact h
      · rw [entsOf_ent h] at he; cases he
    show max 0 (min (free r0 - 8) 48) = 48
    rw [free_no h0]
    omega
  · exfalso
    have hx := hr x (List.mem_cons_self ..)
    rw [entsOf_cons, entsOf_cons x, entsOf_ent hx] at he
    simp at he
end Nm
set_option maxRecDepth 100000 in
set_option maxHeartbeats 16000000 in
theorem map_any (cs : List Chg) (u : Value) (w : World) (hu : RdG w u cs) (hk : ∀ c ∈ cs, c.e.name.length ≤ maxLen) : Calls Try.prog 6 #[u] w (BoolB true w) := by
  obtain ⟨la, lc, rfl⟩ := hu.len
  have hlc : cs.length ≤ lc := by obtain ⟨_, _, h1, h2, _⟩ := hu; cases h1; exact h2
  obtain ⟨kk, hkk⟩ : ∃ kk, min cs.length 100 = kk := ⟨_, rfl⟩
  have hmin := Lib.hid (show min (cs.length : Int) 100 = (kk : Int) by omega)
  have hsli := Lib.hid (fun W => slice51 la cs.length lc kk (by omega) W)
  have hds := hu.take kk (by omega)
  have hkd : ∀ c ∈ cs.take kk, c.e.name.length ≤ maxLen := fun c hc => hk c (List.mem_of_mem_take hc)
  have hlen : (cs.take kk).length = kk := by rw [List.length_take]; omega
  have hk100 : kk ≤ 100 := by omega
  obtain ⟨ds, hds'⟩ : ∃ ds, cs.take kk = ds := ⟨_, rfl⟩
  rw [hds'] at hds hkd hlen
  clear hds' hu hk hkk hlc
  replace hds := Lib.hid hds
  replace hkd := Lib.hid hkd
  go_enter Try.func6, Try.ntmps6
  go_wp2_with fail
  refine (empty_any _).mono ?_
  rintro e w1 ⟨g, cap, rfl, _, ho, hb1⟩
  have r1 := ho.rd
  rw [Nm.empty_len] at r1 ⊢
  clear ho
  have hmm := @run_makeMap Try.prog
  have hBa := hb1.alloc hb1.size (.map #[] 0)
  have hBb := hBa.alloc hBa.size (.cells #[.map (some w1.heap.size)] 52)
  have ra := r1.below ((Below.refl _ _).alloc (Nat.le_refl _) (.map #[] 0))
  have rb := ra.below ((Below.refl _ _).alloc (Nat.le_refl _) (.cells #[.map (some w1.heap.size)] 52))
  have bxb := Box.new (w1.alloc (.map #[] 0)) 52 #[.map (some w1.heap.size)]
  have hmb := (World.ownsMap_made (H := Unit) w1 Try.prog 9 entElem).alloc (.cells #[.map (some w1.heap.size)] 52)
  rw [World.size_alloc] at bxb
  have hlo := hb1.size
  have st : MapSt w (w1.heap.size + 1) w1.heap.size 0 (.slice (some ⟨g, 0, none⟩) 256 cap) ((w1.alloc (.map #[] 0)).alloc (.cells #[.map (some w1.heap.size)] 52)) Nm.empty [Nm.emptyRec] (.map []) :=
    ⟨rb, Nm.recs_empty, Nm.firstOnly_empty, bxb, hmb, by rw [Nm.entsOf_empty]; exact Nm.rep_nil, ⟨by omega, hlo⟩, hBb⟩
  clear hBa hBb ra rb bxb hmb hlo r1 hb1
  obtain ⟨W2, hW2⟩ : ∃ W2, (w1.alloc (.map #[] 0)).alloc (.cells #[.map (some w1.heap.size)] 52) = W2 := ⟨_, rfl⟩
  rw [hW2] at st
  replace st := Lib.hid st
  go_wp2_with fail
  clear hW2 hmm
  refine (begun_any _).mono ?_
  rintro e w3 ⟨rfl, hb⟩
  have st3 := Lib.hid (st.out.below hb)
  clear hb st
  have hmin1 := hmin.out
  have hsli1 := hsli.out
  go_wp2_with fail
  clear hmin1 hsli1 hmin hsli
  obtain ⟨Bm, hBm⟩ : ∃ Bm, w1.heap.size + 1 = Bm := ⟨_, rfl⟩
  obtain ⟨M, hM⟩ : ∃ M, w1.heap.size = M := ⟨_, rfl⟩
  rw [hBm, hM] at st3
  try rw [hBm]
  try rw [hM]
  clear hBm hM
  go_loopw [3, 27] (fun v i wr => ∃ k : Nat, k ≤ kk ∧ i = .int .i64 k ∧ ∃ bs L D, MapSt w Bm M k v wr bs L D) (fun _ i _ => kk - (intOf i).toNat)
  case atStart => exact ⟨0, by omega, rfl, _, _, _, st3.out⟩
  case round =>
    clear st3
    obtain ⟨k, hk, rfl, bs, L, D, st⟩ := hrel
    by_cases hlt : k < kk
    · have hlt' : k < ds.length := by omega
      obtain ⟨bb, o, cc, hv, _, hbb, hcell⟩ := (hds.out.below st.bel).at (by intro e; rw [e] at hlt'; simp at hlt')
      rw [hlen] at hv
      cases hv
      have c0 := hcell k hlt' 0
      have c1 := hcell k hlt' 1
      have c2 := hcell k hlt' 2
      have c3 := hcell k hlt' 3
      clear hcell
      have hkl := hkd.out ds[k] (List.getElem_mem hlt')
      obtain ⟨q, hq⟩ : ∃ q, ds[k] = q := ⟨_, rfl⟩
      rw [hq] at c0 c1 c2 c3 hkl
      clear hq
      obtain ⟨act, nm, ino, kd⟩ := q
      replace c0 := c0 _ rfl
      replace c1 := c1 _ rfl
      replace c2 := c2 _ rfl
      replace c3 := c3 _ rfl
      dsimp only at c0 c1 c2 c3 hkl
      replace c0 : wr.cell? ⟨bb, o + k * 4, none⟩ = _ := c0
      have hI0 : (0 : Int) ≤ (k : Int) := by omega
      have hI1 : (k : Int) < (kk : Int) := by omega
      -- the change in a box, what the map has of its name in another
      have X6 := Box.new wr 54 #[.int .i64 act, .string (S nm), .int .i64 ino, .int .i64 kd]
      have hb := (Below.refl wr.heap.size wr).alloc (Nat.le_refl _) (.cells #[.int .i64 act, .string (S nm), .int .i64 ino, .int .i64 kd] 54)
      have hltb := st.lt
      have stA := st.below hb
      have hlk := lookup_ent_ok stA.map stA.rep 52 Try.underlying52 (zero24 _) nm hkl
      have b0 := stA.box.get 0 _ rfl
      have x0 := X6.get 0 _ rfl
      have x1 := X6.get 1 _ rfl
      have x2 := X6.get 2 _ rfl
      have x3 := X6.get 3 _ rfl
      obtain ⟨fe, hfe⟩ : ∃ fe, (Nm.findIn (Nm.entsOf L) nm).getD zeroEnt = fe := ⟨_, rfl⟩
      obtain ⟨is, his⟩ : ∃ is, (Nm.findIn (Nm.entsOf L) nm).isSome = is := ⟨_, rfl⟩
      rw [hfe, his] at hlk
      obtain ⟨fn, fi, fk⟩ := fe
      unfold entV at hlk
      dsimp only at hlk
      have hb2 := hb.alloc hb.size (.cells #[.string (S fn), .int .i64 fi, .int .i64 fk] 24)
      have stB := st.below hb2
      have X6B := X6.alloc (.cells #[.string (S fn), .int .i64 fi, .int .i64 fk] 24)
      obtain ⟨WB, hWB⟩ : ∃ WB, (wr.alloc (.cells #[.int .i64 act, .string (S nm), .int .i64 ino, .int .i64 kd] 54)).alloc (.cells #[.string (S fn), .int .i64 fi, .int .i64 fk] 24) = WB := ⟨_, rfl⟩
      rw [hWB] at stB X6B
      have y0 := X6B.get 0 _ rfl
      have y1 := X6B.get 1 _ rfl
      have y2 := X6B.get 2 _ rfl
      have y3 := X6B.get 3 _ rfl
      have hck := checkr_any ⟨nm, ino, kd⟩ WB
      obtain ⟨cv, hcv⟩ : ∃ cv, Nm.chk ⟨nm, ino, kd⟩ = cv := ⟨_, rfl⟩
      rw [hcv] at hck
      unfold entV at hck
      dsimp only at hck
      replace hck := Lib.hid hck
      replace stB := Lib.hid stB
      replace X6B := Lib.hid X6B
      replace his := Lib.hid his
      replace hcv := Lib.hid hcv
      clear hfe hb hb2 stA st X6
      go_wp2_with fail
      clear hWB c0 c1 c2 c3 x0 x1 x2 x3 b0 hlk
      refine hck.out.mono ?_
      rintro e w4 ⟨rfl, hb4⟩
      have st4 := Lib.hid (stB.out.below hb4)
      have X64 := Lib.hid (X6B.out.below hb4)
      have hB6 := X6B.out.lt
      clear hb4 stB X6B y0 y1 y2 y3 hck
      have y0 := X64.out.get 0 _ rfl
      have y1 := X64.out.get 1 _ rfl
      have y2 := X64.out.get 2 _ rfl
      have y3 := X64.out.get 3 _ rfl
      have b0 := st4.out.box.get 0 _ rfl
      go_upto_block 2 with fail
      obtain ⟨B6, hB6'⟩ : ∃ B6, wr.heap.size = B6 := ⟨_, rfl⟩
      rw [hB6'] at X64 hB6 y0 y1 y2 y3 ⊢
      clear hB6'
      go_cut [7, 8] (fun x e wx => ∃ en : Int, e = .int .i64 en ∧ (en = 0 → ∃ bs L D, MapSt w Bm M (k + 1) x wx bs L D) ∧ (en ≠ 0 → ∃ bs L D, MapSt w Bm M (k + 1) u3 wx bs L D))
      case first =>
        have hiff : is = true ↔ nm ∈ Nm.names L := by rw [← his.out]; exact Nm.findIn_isSome
        have hr := Lib.hid st4.out.rcs
        have hf := Lib.hid st4.out.fo
        replace hiff := Lib.hid hiff
        by_cases a0 : act = 0
        ·
          have z0 : (act == 0) = true := by simpa using a0
          clear a0
          have ha := add_any bs ⟨nm, ino, kd⟩ u3 w4 st4.out.rd
          have hE := @Nm.add_err bs ⟨nm, ino, kd⟩
          unfold entV at ha
          dsimp only at ha
          rcases Nm.chk_vals ⟨nm, ino, kd⟩ with hc | hc | hc
          ·
            have e0 : cv = 0 := hcv.out.symm.trans hc
            subst e0
            clear hE
            rcases is with _ | _
            ·
              have hn : nm ∉ Nm.names L := fun h => by have := hiff.out.2 h; cases this
              rcases Nm.add_map_none (e := ⟨nm, ino, kd⟩) hr.out hc hn with ⟨c, hx⟩ | ⟨hx, hrm⟩
              ·
                rw [hx] at ha
                obtain ⟨L', A, B, hL', hf', hAB, hAB', _, _⟩ := Nm.add_map hr.out hf.out hx
                have hn' : nm ∉ (A ++ B).map (·.name) := by rw [← hAB]; exact hn
                have hrep : Nm.Rep (D.put (.string nm) (entD ⟨nm, ino, kd⟩)) (Nm.entsOf L') := by rw [hAB']; exact Nm.rep_put (e := ⟨nm, ino, kd⟩) (by rw [← hAB]; exact st4.out.rep) hn'
                clear hx hn hc hAB hAB' hn'
                replace ha := Lib.hid ha
                replace hrep := Lib.hid hrep
                replace hL' := Lib.hid hL'
                replace hf' := Lib.hid hf'
                go_wp2_with (go_at_call 26; (with_reducible refine ha.out.mono ?_); rintro e w5 ⟨u5, rfl, ⟨g5, cap5, rfl, _, ho5⟩, hb5⟩; have r5 := Lib.hid ho5.rd; have st5 := Lib.hid (st4.out.below hb5); have X65 := Lib.hid (X64.out.below hb5); clear hb5 ho5)
                have hS := Lib.hid (show ∀ W : World, Below w5.heap.size w5 W → (fun W => W.cell? ⟨B6, 1, none⟩ = some (.string (S nm))) W from fun W hW => (X65.out.below hW).get 1 _ rfl)
                refine wp_region_noPanic ?_
                refine wp_region_held_drew (S := fun W => W.cell? ⟨B6, 1, none⟩ = some (.string (S nm))) (by kernel_rfl) (hS.out _ ((Below.refl w5.heap.size w5).drew)) (fun hHeld => ?_)
                refine wpAnyH_take (i := 0) (v := ?_) rfl (by kernel_rfl) (by kernel_rfl) (by kernel_rfl) (fun _ _ _ h => h) (Or.inl ⟨rfl, ?_⟩) (by assumption) ?_
                rotate_left
                · intro W hSw
                  (try dsimp only at hSw)
                  go_simp
                  try with_reducible rfl
                try simp only [List.getElem_toArray, List.getElem_cons_zero, List.getElem_cons_succ, Act.put, List.setIfInBounds_toArray, List.set_cons_zero, List.set_cons_succ]
                refine wpAnyH_take (i := 1) (v := ?_) rfl (by kernel_rfl) (by kernel_rfl) (by kernel_rfl) (fun _ _ _ h => h) (Or.inl ⟨rfl, ?_⟩) (by assumption) ?_
                rotate_left
                · intro W hSw
                  (try dsimp only at hSw)
                  go_simp
                  try with_reducible rfl
                try simp only [List.getElem_toArray, List.getElem_cons_zero, List.getElem_cons_succ, Act.put, List.setIfInBounds_toArray, List.set_cons_zero, List.set_cons_succ]
                refine wpAnyH_take (i := 2) (v := ?_) rfl (by kernel_rfl) (by kernel_rfl) (by kernel_rfl) (fun _ _ _ h => h) (Or.inl ⟨rfl, ?_⟩) (by assumption) ?_
                rotate_left
                · intro W hSw
                  (try dsimp only at hSw)
                  go_simp
                  try with_reducible rfl
                try simp only [List.getElem_toArray, List.getElem_cons_zero, List.getElem_cons_succ, Act.put, List.setIfInBounds_toArray, List.set_cons_zero, List.set_cons_succ]
                refine wpAnyH_take (i := 3) (v := ?_) rfl (by kernel_rfl) (by kernel_rfl) (by kernel_rfl) (fun _ _ _ h => h) (Or.inl ⟨rfl, ?_⟩) (by assumption) ?_
                rotate_left
                · intro W hSw
                  (try dsimp only at hSw)
                  go_simp
                  try with_reducible rfl
                try simp only [List.getElem_toArray, List.getElem_cons_zero, List.getElem_cons_succ, Act.put, List.setIfInBounds_toArray, List.set_cons_zero, List.set_cons_succ]
                refine wpAnyH_take (i := 4) (v := ?_) rfl (by kernel_rfl) (by kernel_rfl) (by kernel_rfl) (fun _ _ _ h => h) (Or.inl ⟨rfl, ?_⟩) (by assumption) ?_
                rotate_left
                · intro W hSw
                  (try dsimp only at hSw)
                  go_simp
                  try with_reducible rfl
                try simp only [List.getElem_toArray, List.getElem_cons_zero, List.getElem_cons_succ, Act.put, List.setIfInBounds_toArray, List.set_cons_zero, List.set_cons_succ]
                refine wpAnyH_take (i := 5) (v := ?_) rfl (by kernel_rfl) (by kernel_rfl) (by kernel_rfl) (fun _ _ _ h => h) (Or.inl ⟨rfl, ?_⟩) (by assumption) ?_
                rotate_left
                · intro W hSw
                  (try dsimp only at hSw)
                  go_simp
                  try with_reducible rfl
                try simp only [List.getElem_toArray, List.getElem_cons_zero, List.getElem_cons_succ, Act.put, List.setIfInBounds_toArray, List.set_cons_zero, List.set_cons_succ]
                refine wpAnyH_take (i := 6) (v := ?_) rfl (by kernel_rfl) (by kernel_rfl) (by kernel_rfl) (fun _ _ _ h => h) (Or.inl ⟨rfl, ?_⟩) (by assumption) ?_
                rotate_left
                · intro W hSw
                  (try dsimp only at hSw)
                  go_simp
                  try with_reducible rfl
                try simp only [List.getElem_toArray, List.getElem_cons_zero, List.getElem_cons_succ, Act.put, List.setIfInBounds_toArray, List.set_cons_zero, List.set_cons_succ]
                refine wpAnyH_take (i := 7) (v := ?_) rfl (by kernel_rfl) (by kernel_rfl) (by kernel_rfl) (fun _ _ _ h => h) (Or.inl ⟨rfl, ?_⟩) (by assumption) ?_
                rotate_left
                · intro W hSw
                  (try dsimp only at hSw)
                  go_simp
                  try with_reducible rfl
                try simp only [List.getElem_toArray, List.getElem_cons_zero, List.getElem_cons_succ, Act.put, List.setIfInBounds_toArray, List.set_cons_zero, List.set_cons_succ]
                refine wpAnyH_take (i := 8) (v := ?_) rfl (by kernel_rfl) (by kernel_rfl) (by kernel_rfl) (fun _ _ _ h => h) (Or.inl ⟨rfl, ?_⟩) (by assumption) ?_
                rotate_left
                · intro W hSw
                  (try dsimp only at hSw)
                  go_simp
                  try with_reducible rfl
                try simp only [List.getElem_toArray, List.getElem_cons_zero, List.getElem_cons_succ, Act.put, List.setIfInBounds_toArray, List.set_cons_zero, List.set_cons_succ]
                refine wpAnyH_take (i := 9) (v := ?_) rfl (by kernel_rfl) (by kernel_rfl) (by kernel_rfl) (fun _ _ _ h => h) (Or.inl ⟨rfl, ?_⟩) (by assumption) ?_
                rotate_left
                · intro W hSw
                  (try dsimp only at hSw)
                  go_simp
                  try with_reducible rfl
                try simp only [List.getElem_toArray, List.getElem_cons_zero, List.getElem_cons_succ, Act.put, List.setIfInBounds_toArray, List.set_cons_zero, List.set_cons_succ]
                refine wpAnyH_take (i := 10) (v := ?_) rfl (by kernel_rfl) (by kernel_rfl) (by kernel_rfl) (fun _ _ _ h => h) (Or.inl ⟨rfl, ?_⟩) (by assumption) ?_
                rotate_left
                · intro W hSw
                  (try dsimp only at hSw)
                  go_simp
                  try with_reducible rfl
                try simp only [List.getElem_toArray, List.getElem_cons_zero, List.getElem_cons_succ, Act.put, List.setIfInBounds_toArray, List.set_cons_zero, List.set_cons_succ]
                refine wpAnyH_take (i := 11) (v := ?_) rfl (by kernel_rfl) (by kernel_rfl) (by kernel_rfl) (fun _ _ _ h => h) (Or.inl ⟨rfl, ?_⟩) (by assumption) ?_
                rotate_left
                · intro W hSw
                  (try dsimp only at hSw)
                  go_simp
                  try with_reducible rfl
                try simp only [List.getElem_toArray, List.getElem_cons_zero, List.getElem_cons_succ, Act.put, List.setIfInBounds_toArray, List.set_cons_zero, List.set_cons_succ]
                refine wpAnyH_take (i := 12) (v := ?_) rfl (by kernel_rfl) (by kernel_rfl) (by kernel_rfl) (fun _ _ _ h => h) (Or.inl ⟨rfl, ?_⟩) (by assumption) ?_
                rotate_left
                · intro W hSw
                  (try dsimp only at hSw)
                  go_simp
                  try with_reducible rfl
                try simp only [List.getElem_toArray, List.getElem_cons_zero, List.getElem_cons_succ, Act.put, List.setIfInBounds_toArray, List.set_cons_zero, List.set_cons_succ]
                refine wpAnyH_take (i := 13) (v := ?_) rfl (by kernel_rfl) (by kernel_rfl) (by kernel_rfl) (fun _ _ _ h => h) (Or.inl ⟨rfl, ?_⟩) (by assumption) ?_
                rotate_left
                · intro W hSw
                  (try dsimp only at hSw)
                  go_simp
                  try with_reducible rfl
                try simp only [List.getElem_toArray, List.getElem_cons_zero, List.getElem_cons_succ, Act.put, List.setIfInBounds_toArray, List.set_cons_zero, List.set_cons_succ]
                refine wpAnyH_take (i := 14) (v := ?_) rfl (by kernel_rfl) (by kernel_rfl) (by kernel_rfl) (fun _ _ _ h => h) (Or.inl ⟨rfl, ?_⟩) (by assumption) ?_
                rotate_left
                · intro W hSw
                  (try dsimp only at hSw)
                  go_simp
                  try with_reducible rfl
                try simp only [List.getElem_toArray, List.getElem_cons_zero, List.getElem_cons_succ, Act.put, List.setIfInBounds_toArray, List.set_cons_zero, List.set_cons_succ]
                refine wpAnyH_take (i := 15) (v := ?_) rfl (by kernel_rfl) (by kernel_rfl) (by kernel_rfl) (fun _ _ _ h => h) (Or.inl ⟨rfl, ?_⟩) (by assumption) ?_
                rotate_left
                · intro W hSw
                  (try dsimp only at hSw)
                  go_simp
                  try with_reducible rfl
                try simp only [List.getElem_toArray, List.getElem_cons_zero, List.getElem_cons_succ, Act.put, List.setIfInBounds_toArray, List.set_cons_zero, List.set_cons_succ]
                refine wpAnyH_take (i := 16) (v := ?_) rfl (by kernel_rfl) (by kernel_rfl) (by kernel_rfl) (fun _ _ _ h => h) (Or.inl ⟨rfl, ?_⟩) (by assumption) ?_
                rotate_left
                · intro W hSw
                  (try dsimp only at hSw)
                  go_simp
                  try with_reducible rfl
                try simp only [List.getElem_toArray, List.getElem_cons_zero, List.getElem_cons_succ, Act.put, List.setIfInBounds_toArray, List.set_cons_zero, List.set_cons_succ]
                refine wpAnyH_take (i := 17) (v := ?_) rfl (by kernel_rfl) (by kernel_rfl) (by kernel_rfl) (fun _ _ _ h => h) (Or.inl ⟨rfl, ?_⟩) (by assumption) ?_
                rotate_left
                · intro W hSw
                  (try dsimp only at hSw)
                  go_simp
                  try with_reducible rfl
                try simp only [List.getElem_toArray, List.getElem_cons_zero, List.getElem_cons_succ, Act.put, List.setIfInBounds_toArray, List.set_cons_zero, List.set_cons_succ]
                refine wpAnyH_take (i := 18) (v := undef) rfl (by kernel_rfl) (by kernel_rfl) (by kernel_rfl) (fun _ _ _ h => h) (Or.inr ⟨rfl, rfl⟩) (by assumption) ?_
                try simp only [List.getElem_toArray, List.getElem_cons_zero, List.getElem_cons_succ, Act.put, List.setIfInBounds_toArray, List.set_cons_zero, List.set_cons_succ]
                refine wpAnyH_take (i := 19) (v := undef) rfl (by kernel_rfl) (by kernel_rfl) (by kernel_rfl) (fun _ _ _ h => h) (Or.inr ⟨rfl, rfl⟩) (by assumption) ?_
                try simp only [List.getElem_toArray, List.getElem_cons_zero, List.getElem_cons_succ, Act.put, List.setIfInBounds_toArray, List.set_cons_zero, List.set_cons_succ]
                refine wpAnyH_take (i := 20) (v := undef) rfl (by kernel_rfl) (by kernel_rfl) (by kernel_rfl) (fun _ _ _ h => h) (Or.inr ⟨rfl, rfl⟩) (by assumption) ?_
                try simp only [List.getElem_toArray, List.getElem_cons_zero, List.getElem_cons_succ, Act.put, List.setIfInBounds_toArray, List.set_cons_zero, List.set_cons_succ]
                refine wpAnyH_take (i := 21) (v := undef) rfl (by kernel_rfl) (by kernel_rfl) (by kernel_rfl) (fun _ _ _ h => h) (Or.inr ⟨rfl, rfl⟩) (by assumption) ?_
                try simp only [List.getElem_toArray, List.getElem_cons_zero, List.getElem_cons_succ, Act.put, List.setIfInBounds_toArray, List.set_cons_zero, List.set_cons_succ]
                refine wpAnyH_take (i := 22) (v := undef) rfl (by kernel_rfl) (by kernel_rfl) (by kernel_rfl) (fun _ _ _ h => h) (Or.inr ⟨rfl, rfl⟩) (by assumption) ?_
                try simp only [List.getElem_toArray, List.getElem_cons_zero, List.getElem_cons_succ, Act.put, List.setIfInBounds_toArray, List.set_cons_zero, List.set_cons_succ]
                refine wpAnyH_take (i := 23) (v := undef) rfl (by kernel_rfl) (by kernel_rfl) (by kernel_rfl) (fun _ _ _ h => h) (Or.inr ⟨rfl, rfl⟩) (by assumption) ?_
                try simp only [List.getElem_toArray, List.getElem_cons_zero, List.getElem_cons_succ, Act.put, List.setIfInBounds_toArray, List.set_cons_zero, List.set_cons_succ]
                refine wpAnyH_take (i := 24) (v := undef) rfl (by kernel_rfl) (by kernel_rfl) (by kernel_rfl) (fun _ _ _ h => h) (Or.inr ⟨rfl, rfl⟩) (by assumption) ?_
                try simp only [List.getElem_toArray, List.getElem_cons_zero, List.getElem_cons_succ, Act.put, List.setIfInBounds_toArray, List.set_cons_zero, List.set_cons_succ]
                refine wpAnyH_take (i := 25) (v := ?_) rfl (by kernel_rfl) (by kernel_rfl) (by kernel_rfl) (fun _ _ _ h => h) (Or.inl ⟨rfl, ?_⟩) (by assumption) ?_
                rotate_left
                · intro W hSw
                  (try dsimp only at hSw)
                  go_simp
                  try with_reducible rfl
                try simp only [List.getElem_toArray, List.getElem_cons_zero, List.getElem_cons_succ, Act.put, List.setIfInBounds_toArray, List.set_cons_zero, List.set_cons_succ]
                refine wpAnyH_take (i := 26) (v := ?_) rfl (by kernel_rfl) (by kernel_rfl) (by kernel_rfl) (fun _ _ _ h => h) (Or.inl ⟨rfl, ?_⟩) (by assumption) ?_
                rotate_left
                · intro W hSw
                  (try dsimp only at hSw)
                  go_simp
                  try with_reducible rfl
                try simp only [List.getElem_toArray, List.getElem_cons_zero, List.getElem_cons_succ, Act.put, List.setIfInBounds_toArray, List.set_cons_zero, List.set_cons_succ]
                refine wpAnyH_done (by kernel_rfl) ?_ _
                (try dsimp only [NoPanic])
                have st5d := Lib.hid (st5.out.below ((Below.refl _ _).drew))
                have r5d := Lib.hid (r5.out.below ((Below.refl _ _).drew))
                clear y0 y1 y2 y3 b0
                have y0 := X65.out.drew.get 0 _ rfl
                have y1 := X65.out.drew.get 1 _ rfl
                have y2 := X65.out.drew.get 2 _ rfl
                have y3 := X65.out.drew.get 3 _ rfl
                have b0 := st5d.out.box.get 0 _ rfl
                have hm5 := st5d.out.map
                go_wp2_with (at_mapUpdate; refine wpList_mapUpdate_own _ rfl _ _ _ 52 rfl 9 24 law9 Try.underlying52 entElem M k D rfl hm5 (by unfold maxLen; omega) _ _ (.string nm) rfl rfl (show keyOf Try.prog 9 (.string (S nm)) = some (.string nm) from WideMaps.keyOf_string_mk Try.underlying9 (by simpa using hkl)) _ [] (entElem_mk ⟨nm, ino, kd⟩) ?_; intro w7 hm7 hg7)
                go_meet
                exact ⟨0, rfl, fun _ => ⟨_, L', _, st5d.out.turned hg7 hm7 r5d.out hL'.out hf'.out hrep.out⟩, fun h => absurd rfl h⟩
              ·
                rw [hx] at ha
                clear hx hn hc
                have hroom := Lib.hid (fun W h => room_any bs u3 W h)
                obtain ⟨rm, hrm'⟩ : ∃ rm, Nm.room bs = rm := ⟨_, rfl⟩
                have hr6 : rm < (nm.length : Int) := by rw [← hrm', Nm.room_of hr.out]; exact hrm
                rw [hrm'] at hroom
                clear hrm hrm'
                replace ha := Lib.hid ha
                go_wp2_with (go_at_call 26; (with_reducible refine ha.out.mono ?_); rintro e w5 ⟨u5, rfl, hu5, hb5⟩; replace hu5 : u5 = _ := hu5; subst hu5; have st5 := Lib.hid (st4.out.below hb5); have X65 := Lib.hid (X64.out.below hb5); clear hb5)
                have hS := Lib.hid (show ∀ W : World, Below w5.heap.size w5 W → (fun W => W.cell? ⟨B6, 1, none⟩ = some (.string (S nm))) W from fun W hW => (X65.out.below hW).get 1 _ rfl)
                refine wp_region_noPanic ?_
                refine wp_region_held_drew (S := fun W => W.cell? ⟨B6, 1, none⟩ = some (.string (S nm))) (by kernel_rfl) (hS.out _ ((Below.refl w5.heap.size w5).drew)) (fun hHeld => ?_)
                refine wpAnyH_take (i := 0) (v := ?_) rfl (by kernel_rfl) (by kernel_rfl) (by kernel_rfl) (fun _ _ _ h => h) (Or.inl ⟨rfl, ?_⟩) (by assumption) ?_
                rotate_left
                · intro W hSw
                  (try dsimp only at hSw)
                  go_simp
                  try with_reducible rfl
                try simp only [List.getElem_toArray, List.getElem_cons_zero, List.getElem_cons_succ, Act.put, List.setIfInBounds_toArray, List.set_cons_zero, List.set_cons_succ]
                refine wpAnyH_take (i := 1) (v := ?_) rfl (by kernel_rfl) (by kernel_rfl) (by kernel_rfl) (fun _ _ _ h => h) (Or.inl ⟨rfl, ?_⟩) (by assumption) ?_
                rotate_left
                · intro W hSw
                  (try dsimp only at hSw)
                  go_simp
                  try with_reducible rfl
                try simp only [List.getElem_toArray, List.getElem_cons_zero, List.getElem_cons_succ, Act.put, List.setIfInBounds_toArray, List.set_cons_zero, List.set_cons_succ]
                refine wpAnyH_take (i := 2) (v := ?_) rfl (by kernel_rfl) (by kernel_rfl) (by kernel_rfl) (fun _ _ _ h => h) (Or.inl ⟨rfl, ?_⟩) (by assumption) ?_
                rotate_left
                · intro W hSw
                  (try dsimp only at hSw)
                  go_simp
                  try with_reducible rfl
                try simp only [List.getElem_toArray, List.getElem_cons_zero, List.getElem_cons_succ, Act.put, List.setIfInBounds_toArray, List.set_cons_zero, List.set_cons_succ]
                refine wpAnyH_take (i := 3) (v := ?_) rfl (by kernel_rfl) (by kernel_rfl) (by kernel_rfl) (fun _ _ _ h => h) (Or.inl ⟨rfl, ?_⟩) (by assumption) ?_
                rotate_left
                · intro W hSw
                  (try dsimp only at hSw)
                  go_simp
                  try with_reducible rfl
                try simp only [List.getElem_toArray, List.getElem_cons_zero, List.getElem_cons_succ, Act.put, List.setIfInBounds_toArray, List.set_cons_zero, List.set_cons_succ]
                refine wpAnyH_take (i := 4) (v := ?_) rfl (by kernel_rfl) (by kernel_rfl) (by kernel_rfl) (fun _ _ _ h => h) (Or.inl ⟨rfl, ?_⟩) (by assumption) ?_
                rotate_left
                · intro W hSw
                  (try dsimp only at hSw)
                  go_simp
                  try with_reducible rfl
                try simp only [List.getElem_toArray, List.getElem_cons_zero, List.getElem_cons_succ, Act.put, List.setIfInBounds_toArray, List.set_cons_zero, List.set_cons_succ]
                refine wpAnyH_take (i := 5) (v := ?_) rfl (by kernel_rfl) (by kernel_rfl) (by kernel_rfl) (fun _ _ _ h => h) (Or.inl ⟨rfl, ?_⟩) (by assumption) ?_
                rotate_left
                · intro W hSw
                  (try dsimp only at hSw)
                  go_simp
                  try with_reducible rfl
                try simp only [List.getElem_toArray, List.getElem_cons_zero, List.getElem_cons_succ, Act.put, List.setIfInBounds_toArray, List.set_cons_zero, List.set_cons_succ]
                refine wpAnyH_take (i := 6) (v := ?_) rfl (by kernel_rfl) (by kernel_rfl) (by kernel_rfl) (fun _ _ _ h => h) (Or.inl ⟨rfl, ?_⟩) (by assumption) ?_
                rotate_left
                · intro W hSw
                  (try dsimp only at hSw)
                  go_simp
                  try with_reducible rfl
                try simp only [List.getElem_toArray, List.getElem_cons_zero, List.getElem_cons_succ, Act.put, List.setIfInBounds_toArray, List.set_cons_zero, List.set_cons_succ]
                refine wpAnyH_take (i := 7) (v := ?_) rfl (by kernel_rfl) (by kernel_rfl) (by kernel_rfl) (fun _ _ _ h => h) (Or.inl ⟨rfl, ?_⟩) (by assumption) ?_
                rotate_left
                · intro W hSw
                  (try dsimp only at hSw)
                  go_simp
                  try with_reducible rfl
                try simp only [List.getElem_toArray, List.getElem_cons_zero, List.getElem_cons_succ, Act.put, List.setIfInBounds_toArray, List.set_cons_zero, List.set_cons_succ]
                refine wpAnyH_take (i := 8) (v := ?_) rfl (by kernel_rfl) (by kernel_rfl) (by kernel_rfl) (fun _ _ _ h => h) (Or.inl ⟨rfl, ?_⟩) (by assumption) ?_
                rotate_left
                · intro W hSw
                  (try dsimp only at hSw)
                  go_simp
                  try with_reducible rfl
                try simp only [List.getElem_toArray, List.getElem_cons_zero, List.getElem_cons_succ, Act.put, List.setIfInBounds_toArray, List.set_cons_zero, List.set_cons_succ]
                refine wpAnyH_take (i := 9) (v := ?_) rfl (by kernel_rfl) (by kernel_rfl) (by kernel_rfl) (fun _ _ _ h => h) (Or.inl ⟨rfl, ?_⟩) (by assumption) ?_
                rotate_left
                · intro W hSw
                  (try dsimp only at hSw)
                  go_simp
                  try with_reducible rfl
                try simp only [List.getElem_toArray, List.getElem_cons_zero, List.getElem_cons_succ, Act.put, List.setIfInBounds_toArray, List.set_cons_zero, List.set_cons_succ]
                refine wpAnyH_take (i := 10) (v := ?_) rfl (by kernel_rfl) (by kernel_rfl) (by kernel_rfl) (fun _ _ _ h => h) (Or.inl ⟨rfl, ?_⟩) (by assumption) ?_
                rotate_left
                · intro W hSw
                  (try dsimp only at hSw)
                  go_simp
                  try with_reducible rfl
                try simp only [List.getElem_toArray, List.getElem_cons_zero, List.getElem_cons_succ, Act.put, List.setIfInBounds_toArray, List.set_cons_zero, List.set_cons_succ]
                refine wpAnyH_take (i := 11) (v := undef) rfl (by kernel_rfl) (by kernel_rfl) (by kernel_rfl) (fun _ _ _ h => h) (Or.inr ⟨rfl, rfl⟩) (by assumption) ?_
                try simp only [List.getElem_toArray, List.getElem_cons_zero, List.getElem_cons_succ, Act.put, List.setIfInBounds_toArray, List.set_cons_zero, List.set_cons_succ]
                refine wpAnyH_take (i := 12) (v := ?_) rfl (by kernel_rfl) (by kernel_rfl) (by kernel_rfl) (fun _ _ _ h => h) (Or.inl ⟨rfl, ?_⟩) (by assumption) ?_
                rotate_left
                · intro W hSw
                  (try dsimp only at hSw)
                  go_simp
                  try with_reducible rfl
                try simp only [List.getElem_toArray, List.getElem_cons_zero, List.getElem_cons_succ, Act.put, List.setIfInBounds_toArray, List.set_cons_zero, List.set_cons_succ]
                refine wpAnyH_take (i := 13) (v := ?_) rfl (by kernel_rfl) (by kernel_rfl) (by kernel_rfl) (fun _ _ _ h => h) (Or.inl ⟨rfl, ?_⟩) (by assumption) ?_
                rotate_left
                · intro W hSw
                  (try dsimp only at hSw)
                  go_simp
                  try with_reducible rfl
                try simp only [List.getElem_toArray, List.getElem_cons_zero, List.getElem_cons_succ, Act.put, List.setIfInBounds_toArray, List.set_cons_zero, List.set_cons_succ]
                refine wpAnyH_take (i := 14) (v := ?_) rfl (by kernel_rfl) (by kernel_rfl) (by kernel_rfl) (fun _ _ _ h => h) (Or.inl ⟨rfl, ?_⟩) (by assumption) ?_
                rotate_left
                · intro W hSw
                  (try dsimp only at hSw)
                  go_simp
                  try with_reducible rfl
                try simp only [List.getElem_toArray, List.getElem_cons_zero, List.getElem_cons_succ, Act.put, List.setIfInBounds_toArray, List.set_cons_zero, List.set_cons_succ]
                refine wpAnyH_take (i := 15) (v := ?_) rfl (by kernel_rfl) (by kernel_rfl) (by kernel_rfl) (fun _ _ _ h => h) (Or.inl ⟨rfl, ?_⟩) (by assumption) ?_
                rotate_left
                · intro W hSw
                  (try dsimp only at hSw)
                  go_simp
                  try with_reducible rfl
                try simp only [List.getElem_toArray, List.getElem_cons_zero, List.getElem_cons_succ, Act.put, List.setIfInBounds_toArray, List.set_cons_zero, List.set_cons_succ]
                refine wpAnyH_take (i := 16) (v := ?_) rfl (by kernel_rfl) (by kernel_rfl) (by kernel_rfl) (fun _ _ _ h => h) (Or.inl ⟨rfl, ?_⟩) (by assumption) ?_
                rotate_left
                · intro W hSw
                  (try dsimp only at hSw)
                  go_simp
                  try with_reducible rfl
                try simp only [List.getElem_toArray, List.getElem_cons_zero, List.getElem_cons_succ, Act.put, List.setIfInBounds_toArray, List.set_cons_zero, List.set_cons_succ]
                refine wpAnyH_take (i := 17) (v := ?_) rfl (by kernel_rfl) (by kernel_rfl) (by kernel_rfl) (fun _ _ _ h => h) (Or.inl ⟨rfl, ?_⟩) (by assumption) ?_
                rotate_left
                · intro W hSw
                  (try dsimp only at hSw)
                  go_simp
                  try with_reducible rfl
                try simp only [List.getElem_toArray, List.getElem_cons_zero, List.getElem_cons_succ, Act.put, List.setIfInBounds_toArray, List.set_cons_zero, List.set_cons_succ]
                refine wpAnyH_take (i := 18) (v := ?_) rfl (by kernel_rfl) (by kernel_rfl) (by kernel_rfl) (fun _ _ _ h => h) (Or.inl ⟨rfl, ?_⟩) (by assumption) ?_
                rotate_left
                · intro W hSw
                  (try dsimp only at hSw)
                  go_simp
                  try with_reducible rfl
                try simp only [List.getElem_toArray, List.getElem_cons_zero, List.getElem_cons_succ, Act.put, List.setIfInBounds_toArray, List.set_cons_zero, List.set_cons_succ]
                refine wpAnyH_take (i := 20) (v := ?_) rfl (by kernel_rfl) (by kernel_rfl) (by kernel_rfl) (fun _ _ _ h => h) (Or.inl ⟨rfl, ?_⟩) (by assumption) ?_
                rotate_left
                · intro W hSw
                  (try dsimp only at hSw)
                  go_simp
                  try with_reducible rfl
                try simp only [List.getElem_toArray, List.getElem_cons_zero, List.getElem_cons_succ, Act.put, List.setIfInBounds_toArray, List.set_cons_zero, List.set_cons_succ]
                refine wpAnyH_take (i := 21) (v := ?_) rfl (by kernel_rfl) (by kernel_rfl) (by kernel_rfl) (fun _ _ _ h => h) (Or.inl ⟨rfl, ?_⟩) (by assumption) ?_
                rotate_left
                · intro W hSw
                  (try dsimp only at hSw)
                  go_simp
                  try with_reducible rfl
                try simp only [List.getElem_toArray, List.getElem_cons_zero, List.getElem_cons_succ, Act.put, List.setIfInBounds_toArray, List.set_cons_zero, List.set_cons_succ]
                refine wpAnyH_take (i := 22) (v := ?_) rfl (by kernel_rfl) (by kernel_rfl) (by kernel_rfl) (fun _ _ _ h => h) (Or.inl ⟨rfl, ?_⟩) (by assumption) ?_
                rotate_left
                · intro W hSw
                  (try dsimp only at hSw)
                  go_simp
                  try with_reducible rfl
                try simp only [List.getElem_toArray, List.getElem_cons_zero, List.getElem_cons_succ, Act.put, List.setIfInBounds_toArray, List.set_cons_zero, List.set_cons_succ]
                refine wpAnyH_take (i := 23) (v := ?_) rfl (by kernel_rfl) (by kernel_rfl) (by kernel_rfl) (fun _ _ _ h => h) (Or.inl ⟨rfl, ?_⟩) (by assumption) ?_
                rotate_left
                · intro W hSw
                  (try dsimp only at hSw)
                  go_simp
                  try with_reducible rfl
                try simp only [List.getElem_toArray, List.getElem_cons_zero, List.getElem_cons_succ, Act.put, List.setIfInBounds_toArray, List.set_cons_zero, List.set_cons_succ]
                refine wpAnyH_ready (rs := [19]) (by kernel_rfl) (by simp) (AllReadyH.cons rfl (fun K hK => ?_) AllReadyH.nil)
                go_simp
                (with_reducible refine (hroom.out _ (Rd.below st5.out.rd (Below.refl _ _).drew)).mono ?_)
                rintro e w6 ⟨rfl, hb6⟩
                refine hK.out _ _ (hS.out _ (below_undrew hb6)) (fun hHeld => ?_)
                clear hK
                try simp only [List.getElem_toArray, List.getElem_cons_zero, List.getElem_cons_succ, Act.put, List.setIfInBounds_toArray, List.set_cons_zero, List.set_cons_succ]
                refine wpAnyH_take (i := 24) (v := ?_) rfl (by kernel_rfl) (by kernel_rfl) (by kernel_rfl) (fun _ _ _ h => h) (Or.inl ⟨rfl, ?_⟩) (by assumption) ?_
                rotate_left
                · intro W hSw
                  (try dsimp only at hSw)
                  go_simp
                  try with_reducible rfl
                try simp only [List.getElem_toArray, List.getElem_cons_zero, List.getElem_cons_succ, Act.put, List.setIfInBounds_toArray, List.set_cons_zero, List.set_cons_succ]
                refine wpAnyH_take (i := 25) (v := ?_) rfl (by kernel_rfl) (by kernel_rfl) (by kernel_rfl) (fun _ _ _ h => h) (Or.inl ⟨rfl, ?_⟩) (by assumption) ?_
                rotate_left
                · intro W hSw
                  (try dsimp only at hSw)
                  go_simp
                  try with_reducible rfl
                try simp only [List.getElem_toArray, List.getElem_cons_zero, List.getElem_cons_succ, Act.put, List.setIfInBounds_toArray, List.set_cons_zero, List.set_cons_succ]
                refine wpAnyH_take (i := 26) (v := ?_) rfl (by kernel_rfl) (by kernel_rfl) (by kernel_rfl) (fun _ _ _ h => h) (Or.inl ⟨rfl, ?_⟩) (by assumption) ?_
                rotate_left
                · intro W hSw
                  (try dsimp only at hSw)
                  go_simp
                  try with_reducible rfl
                try simp only [List.getElem_toArray, List.getElem_cons_zero, List.getElem_cons_succ, Act.put, List.setIfInBounds_toArray, List.set_cons_zero, List.set_cons_succ]
                refine wpAnyH_done (by kernel_rfl) ?_ _
                (try dsimp only [NoPanic])
                go_wp2_with fail
                have st6 := st5.out.below (below_undrew hb6)
                go_meet
                exact ⟨_, rfl, fun h => absurd h (by decide), fun _ => ⟨bs, L, D, st6.more⟩⟩
            ·
              have hx := Nm.add_map_twice (e := ⟨nm, ino, kd⟩) hr.out hc (hiff.out.1 rfl)
              rw [hx] at ha
              clear hx hc
              replace ha := Lib.hid ha
              go_wp2_with (go_at_call 26; (with_reducible refine ha.out.mono ?_); rintro e w5 ⟨u5, rfl, hu5, hb5⟩; replace hu5 : u5 = _ := hu5; subst hu5; have st5 := Lib.hid (st4.out.below hb5); have X65 := Lib.hid (X64.out.below hb5); clear hb5)
              have hS := Lib.hid (show ∀ W : World, Below w5.heap.size w5 W → (fun W => W.cell? ⟨B6, 1, none⟩ = some (.string (S nm))) W from fun W hW => (X65.out.below hW).get 1 _ rfl)
              refine wp_region_noPanic ?_
              refine wp_region_held_drew (S := fun W => W.cell? ⟨B6, 1, none⟩ = some (.string (S nm))) (by kernel_rfl) (hS.out _ ((Below.refl w5.heap.size w5).drew)) (fun hHeld => ?_)
              refine wpAnyH_take (i := 0) (v := ?_) rfl (by kernel_rfl) (by kernel_rfl) (by kernel_rfl) (fun _ _ _ h => h) (Or.inl ⟨rfl, ?_⟩) (by assumption) ?_
              rotate_left
              · intro W hSw
                (try dsimp only at hSw)
                go_simp
                try with_reducible rfl
              try simp only [List.getElem_toArray, List.getElem_cons_zero, List.getElem_cons_succ, Act.put, List.setIfInBounds_toArray, List.set_cons_zero, List.set_cons_succ]
              refine wpAnyH_take (i := 1) (v := ?_) rfl (by kernel_rfl) (by kernel_rfl) (by kernel_rfl) (fun _ _ _ h => h) (Or.inl ⟨rfl, ?_⟩) (by assumption) ?_
              rotate_left
              · intro W hSw
                (try dsimp only at hSw)
                go_simp
                try with_reducible rfl
              try simp only [List.getElem_toArray, List.getElem_cons_zero, List.getElem_cons_succ, Act.put, List.setIfInBounds_toArray, List.set_cons_zero, List.set_cons_succ]
              refine wpAnyH_take (i := 2) (v := ?_) rfl (by kernel_rfl) (by kernel_rfl) (by kernel_rfl) (fun _ _ _ h => h) (Or.inl ⟨rfl, ?_⟩) (by assumption) ?_
              rotate_left
              · intro W hSw
                (try dsimp only at hSw)
                go_simp
                try with_reducible rfl
              try simp only [List.getElem_toArray, List.getElem_cons_zero, List.getElem_cons_succ, Act.put, List.setIfInBounds_toArray, List.set_cons_zero, List.set_cons_succ]
              refine wpAnyH_take (i := 3) (v := ?_) rfl (by kernel_rfl) (by kernel_rfl) (by kernel_rfl) (fun _ _ _ h => h) (Or.inl ⟨rfl, ?_⟩) (by assumption) ?_
              rotate_left
              · intro W hSw
                (try dsimp only at hSw)
                go_simp
                try with_reducible rfl
              try simp only [List.getElem_toArray, List.getElem_cons_zero, List.getElem_cons_succ, Act.put, List.setIfInBounds_toArray, List.set_cons_zero, List.set_cons_succ]
              refine wpAnyH_take (i := 4) (v := ?_) rfl (by kernel_rfl) (by kernel_rfl) (by kernel_rfl) (fun _ _ _ h => h) (Or.inl ⟨rfl, ?_⟩) (by assumption) ?_
              rotate_left
              · intro W hSw
                (try dsimp only at hSw)
                go_simp
                try with_reducible rfl
              try simp only [List.getElem_toArray, List.getElem_cons_zero, List.getElem_cons_succ, Act.put, List.setIfInBounds_toArray, List.set_cons_zero, List.set_cons_succ]
              refine wpAnyH_take (i := 5) (v := ?_) rfl (by kernel_rfl) (by kernel_rfl) (by kernel_rfl) (fun _ _ _ h => h) (Or.inl ⟨rfl, ?_⟩) (by assumption) ?_
              rotate_left
              · intro W hSw
                (try dsimp only at hSw)
                go_simp
                try with_reducible rfl
              try simp only [List.getElem_toArray, List.getElem_cons_zero, List.getElem_cons_succ, Act.put, List.setIfInBounds_toArray, List.set_cons_zero, List.set_cons_succ]
              refine wpAnyH_take (i := 6) (v := ?_) rfl (by kernel_rfl) (by kernel_rfl) (by kernel_rfl) (fun _ _ _ h => h) (Or.inl ⟨rfl, ?_⟩) (by assumption) ?_
              rotate_left
              · intro W hSw
                (try dsimp only at hSw)
                go_simp
                try with_reducible rfl
              try simp only [List.getElem_toArray, List.getElem_cons_zero, List.getElem_cons_succ, Act.put, List.setIfInBounds_toArray, List.set_cons_zero, List.set_cons_succ]
              refine wpAnyH_take (i := 7) (v := ?_) rfl (by kernel_rfl) (by kernel_rfl) (by kernel_rfl) (fun _ _ _ h => h) (Or.inl ⟨rfl, ?_⟩) (by assumption) ?_
              rotate_left
              · intro W hSw
                (try dsimp only at hSw)
                go_simp
                try with_reducible rfl
              try simp only [List.getElem_toArray, List.getElem_cons_zero, List.getElem_cons_succ, Act.put, List.setIfInBounds_toArray, List.set_cons_zero, List.set_cons_succ]
              refine wpAnyH_take (i := 8) (v := ?_) rfl (by kernel_rfl) (by kernel_rfl) (by kernel_rfl) (fun _ _ _ h => h) (Or.inl ⟨rfl, ?_⟩) (by assumption) ?_
              rotate_left
              · intro W hSw
                (try dsimp only at hSw)
                go_simp
                try with_reducible rfl
              try simp only [List.getElem_toArray, List.getElem_cons_zero, List.getElem_cons_succ, Act.put, List.setIfInBounds_toArray, List.set_cons_zero, List.set_cons_succ]
              refine wpAnyH_take (i := 9) (v := ?_) rfl (by kernel_rfl) (by kernel_rfl) (by kernel_rfl) (fun _ _ _ h => h) (Or.inl ⟨rfl, ?_⟩) (by assumption) ?_
              rotate_left
              · intro W hSw
                (try dsimp only at hSw)
                go_simp
                try with_reducible rfl
              try simp only [List.getElem_toArray, List.getElem_cons_zero, List.getElem_cons_succ, Act.put, List.setIfInBounds_toArray, List.set_cons_zero, List.set_cons_succ]
              refine wpAnyH_take (i := 10) (v := ?_) rfl (by kernel_rfl) (by kernel_rfl) (by kernel_rfl) (fun _ _ _ h => h) (Or.inl ⟨rfl, ?_⟩) (by assumption) ?_
              rotate_left
              · intro W hSw
                (try dsimp only at hSw)
                go_simp
                try with_reducible rfl
              try simp only [List.getElem_toArray, List.getElem_cons_zero, List.getElem_cons_succ, Act.put, List.setIfInBounds_toArray, List.set_cons_zero, List.set_cons_succ]
              refine wpAnyH_take (i := 11) (v := undef) rfl (by kernel_rfl) (by kernel_rfl) (by kernel_rfl) (fun _ _ _ h => h) (Or.inr ⟨rfl, rfl⟩) (by assumption) ?_
              try simp only [List.getElem_toArray, List.getElem_cons_zero, List.getElem_cons_succ, Act.put, List.setIfInBounds_toArray, List.set_cons_zero, List.set_cons_succ]
              refine wpAnyH_take (i := 12) (v := ?_) rfl (by kernel_rfl) (by kernel_rfl) (by kernel_rfl) (fun _ _ _ h => h) (Or.inl ⟨rfl, ?_⟩) (by assumption) ?_
              rotate_left
              · intro W hSw
                (try dsimp only at hSw)
                go_simp
                try with_reducible rfl
              try simp only [List.getElem_toArray, List.getElem_cons_zero, List.getElem_cons_succ, Act.put, List.setIfInBounds_toArray, List.set_cons_zero, List.set_cons_succ]
              refine wpAnyH_take (i := 13) (v := ?_) rfl (by kernel_rfl) (by kernel_rfl) (by kernel_rfl) (fun _ _ _ h => h) (Or.inl ⟨rfl, ?_⟩) (by assumption) ?_
              rotate_left
              · intro W hSw
                (try dsimp only at hSw)
                go_simp
                try with_reducible rfl
              try simp only [List.getElem_toArray, List.getElem_cons_zero, List.getElem_cons_succ, Act.put, List.setIfInBounds_toArray, List.set_cons_zero, List.set_cons_succ]
              refine wpAnyH_take (i := 14) (v := ?_) rfl (by kernel_rfl) (by kernel_rfl) (by kernel_rfl) (fun _ _ _ h => h) (Or.inl ⟨rfl, ?_⟩) (by assumption) ?_
              rotate_left
              · intro W hSw
                (try dsimp only at hSw)
                go_simp
                try with_reducible rfl
              try simp only [List.getElem_toArray, List.getElem_cons_zero, List.getElem_cons_succ, Act.put, List.setIfInBounds_toArray, List.set_cons_zero, List.set_cons_succ]
              refine wpAnyH_take (i := 15) (v := ?_) rfl (by kernel_rfl) (by kernel_rfl) (by kernel_rfl) (fun _ _ _ h => h) (Or.inl ⟨rfl, ?_⟩) (by assumption) ?_
              rotate_left
              · intro W hSw
                (try dsimp only at hSw)
                go_simp
                try with_reducible rfl
              try simp only [List.getElem_toArray, List.getElem_cons_zero, List.getElem_cons_succ, Act.put, List.setIfInBounds_toArray, List.set_cons_zero, List.set_cons_succ]
              refine wpAnyH_take (i := 16) (v := ?_) rfl (by kernel_rfl) (by kernel_rfl) (by kernel_rfl) (fun _ _ _ h => h) (Or.inl ⟨rfl, ?_⟩) (by assumption) ?_
              rotate_left
              · intro W hSw
                (try dsimp only at hSw)
                go_simp
                try with_reducible rfl
              try simp only [List.getElem_toArray, List.getElem_cons_zero, List.getElem_cons_succ, Act.put, List.setIfInBounds_toArray, List.set_cons_zero, List.set_cons_succ]
              refine wpAnyH_take (i := 17) (v := ?_) rfl (by kernel_rfl) (by kernel_rfl) (by kernel_rfl) (fun _ _ _ h => h) (Or.inl ⟨rfl, ?_⟩) (by assumption) ?_
              rotate_left
              · intro W hSw
                (try dsimp only at hSw)
                go_simp
                try with_reducible rfl
              try simp only [List.getElem_toArray, List.getElem_cons_zero, List.getElem_cons_succ, Act.put, List.setIfInBounds_toArray, List.set_cons_zero, List.set_cons_succ]
              refine wpAnyH_take (i := 18) (v := undef) rfl (by kernel_rfl) (by kernel_rfl) (by kernel_rfl) (fun _ _ _ h => h) (Or.inr ⟨rfl, rfl⟩) (by assumption) ?_
              try simp only [List.getElem_toArray, List.getElem_cons_zero, List.getElem_cons_succ, Act.put, List.setIfInBounds_toArray, List.set_cons_zero, List.set_cons_succ]
              refine wpAnyH_take (i := 19) (v := undef) rfl (by kernel_rfl) (by kernel_rfl) (by kernel_rfl) (fun _ _ _ h => h) (Or.inr ⟨rfl, rfl⟩) (by assumption) ?_
              try simp only [List.getElem_toArray, List.getElem_cons_zero, List.getElem_cons_succ, Act.put, List.setIfInBounds_toArray, List.set_cons_zero, List.set_cons_succ]
              refine wpAnyH_take (i := 20) (v := undef) rfl (by kernel_rfl) (by kernel_rfl) (by kernel_rfl) (fun _ _ _ h => h) (Or.inr ⟨rfl, rfl⟩) (by assumption) ?_
              try simp only [List.getElem_toArray, List.getElem_cons_zero, List.getElem_cons_succ, Act.put, List.setIfInBounds_toArray, List.set_cons_zero, List.set_cons_succ]
              refine wpAnyH_take (i := 21) (v := undef) rfl (by kernel_rfl) (by kernel_rfl) (by kernel_rfl) (fun _ _ _ h => h) (Or.inr ⟨rfl, rfl⟩) (by assumption) ?_
              try simp only [List.getElem_toArray, List.getElem_cons_zero, List.getElem_cons_succ, Act.put, List.setIfInBounds_toArray, List.set_cons_zero, List.set_cons_succ]
              refine wpAnyH_take (i := 22) (v := undef) rfl (by kernel_rfl) (by kernel_rfl) (by kernel_rfl) (fun _ _ _ h => h) (Or.inr ⟨rfl, rfl⟩) (by assumption) ?_
              try simp only [List.getElem_toArray, List.getElem_cons_zero, List.getElem_cons_succ, Act.put, List.setIfInBounds_toArray, List.set_cons_zero, List.set_cons_succ]
              refine wpAnyH_take (i := 23) (v := undef) rfl (by kernel_rfl) (by kernel_rfl) (by kernel_rfl) (fun _ _ _ h => h) (Or.inr ⟨rfl, rfl⟩) (by assumption) ?_
              try simp only [List.getElem_toArray, List.getElem_cons_zero, List.getElem_cons_succ, Act.put, List.setIfInBounds_toArray, List.set_cons_zero, List.set_cons_succ]
              refine wpAnyH_take (i := 24) (v := undef) rfl (by kernel_rfl) (by kernel_rfl) (by kernel_rfl) (fun _ _ _ h => h) (Or.inr ⟨rfl, rfl⟩) (by assumption) ?_
              try simp only [List.getElem_toArray, List.getElem_cons_zero, List.getElem_cons_succ, Act.put, List.setIfInBounds_toArray, List.set_cons_zero, List.set_cons_succ]
              refine wpAnyH_take (i := 25) (v := ?_) rfl (by kernel_rfl) (by kernel_rfl) (by kernel_rfl) (fun _ _ _ h => h) (Or.inl ⟨rfl, ?_⟩) (by assumption) ?_
              rotate_left
              · intro W hSw
                (try dsimp only at hSw)
                go_simp
                try with_reducible rfl
              try simp only [List.getElem_toArray, List.getElem_cons_zero, List.getElem_cons_succ, Act.put, List.setIfInBounds_toArray, List.set_cons_zero, List.set_cons_succ]
              refine wpAnyH_take (i := 26) (v := ?_) rfl (by kernel_rfl) (by kernel_rfl) (by kernel_rfl) (fun _ _ _ h => h) (Or.inl ⟨rfl, ?_⟩) (by assumption) ?_
              rotate_left
              · intro W hSw
                (try dsimp only at hSw)
                go_simp
                try with_reducible rfl
              try simp only [List.getElem_toArray, List.getElem_cons_zero, List.getElem_cons_succ, Act.put, List.setIfInBounds_toArray, List.set_cons_zero, List.set_cons_succ]
              refine wpAnyH_done (by kernel_rfl) ?_ _
              (try dsimp only [NoPanic])
              go_wp2_with fail
              go_meet
              exact ⟨_, rfl, fun h => absurd h (by decide), fun _ => ⟨bs, L, D, (st5.out.below ((Below.refl _ _).drew)).more⟩⟩
          ·
            have e0 : cv = 161 := hcv.out.symm.trans hc
            subst e0
            have hx := hE (by rw [hc]; decide)
            rw [hc] at hx
            rw [hx] at ha
            clear hx hE hc
            replace ha := Lib.hid ha
            go_wp2_with (go_at_call 26; (with_reducible refine ha.out.mono ?_); rintro e w5 ⟨u5, rfl, hu5, hb5⟩; replace hu5 : u5 = _ := hu5; subst hu5; have st5 := Lib.hid (st4.out.below hb5); have X65 := Lib.hid (X64.out.below hb5); clear hb5)
            have hS := Lib.hid (show ∀ W : World, Below w5.heap.size w5 W → (fun W => W.cell? ⟨B6, 1, none⟩ = some (.string (S nm))) W from fun W hW => (X65.out.below hW).get 1 _ rfl)
            refine wp_region_noPanic ?_
            refine wp_region_held_drew (S := fun W => W.cell? ⟨B6, 1, none⟩ = some (.string (S nm))) (by kernel_rfl) (hS.out _ ((Below.refl w5.heap.size w5).drew)) (fun hHeld => ?_)
            refine wpAnyH_take (i := 0) (v := ?_) rfl (by kernel_rfl) (by kernel_rfl) (by kernel_rfl) (fun _ _ _ h => h) (Or.inl ⟨rfl, ?_⟩) (by assumption) ?_
            rotate_left
            · intro W hSw
              (try dsimp only at hSw)
              go_simp
              try with_reducible rfl
            try simp only [List.getElem_toArray, List.getElem_cons_zero, List.getElem_cons_succ, Act.put, List.setIfInBounds_toArray, List.set_cons_zero, List.set_cons_succ]
            refine wpAnyH_take (i := 1) (v := ?_) rfl (by kernel_rfl) (by kernel_rfl) (by kernel_rfl) (fun _ _ _ h => h) (Or.inl ⟨rfl, ?_⟩) (by assumption) ?_
            rotate_left
            · intro W hSw
              (try dsimp only at hSw)
              go_simp
              try with_reducible rfl
            try simp only [List.getElem_toArray, List.getElem_cons_zero, List.getElem_cons_succ, Act.put, List.setIfInBounds_toArray, List.set_cons_zero, List.set_cons_succ]
            refine wpAnyH_take (i := 2) (v := undef) rfl (by kernel_rfl) (by kernel_rfl) (by kernel_rfl) (fun _ _ _ h => h) (Or.inr ⟨rfl, rfl⟩) (by assumption) ?_
            try simp only [List.getElem_toArray, List.getElem_cons_zero, List.getElem_cons_succ, Act.put, List.setIfInBounds_toArray, List.set_cons_zero, List.set_cons_succ]
            refine wpAnyH_take (i := 3) (v := undef) rfl (by kernel_rfl) (by kernel_rfl) (by kernel_rfl) (fun _ _ _ h => h) (Or.inr ⟨rfl, rfl⟩) (by assumption) ?_
            try simp only [List.getElem_toArray, List.getElem_cons_zero, List.getElem_cons_succ, Act.put, List.setIfInBounds_toArray, List.set_cons_zero, List.set_cons_succ]
            refine wpAnyH_take (i := 4) (v := undef) rfl (by kernel_rfl) (by kernel_rfl) (by kernel_rfl) (fun _ _ _ h => h) (Or.inr ⟨rfl, rfl⟩) (by assumption) ?_
            try simp only [List.getElem_toArray, List.getElem_cons_zero, List.getElem_cons_succ, Act.put, List.setIfInBounds_toArray, List.set_cons_zero, List.set_cons_succ]
            refine wpAnyH_take (i := 5) (v := undef) rfl (by kernel_rfl) (by kernel_rfl) (by kernel_rfl) (fun _ _ _ h => h) (Or.inr ⟨rfl, rfl⟩) (by assumption) ?_
            try simp only [List.getElem_toArray, List.getElem_cons_zero, List.getElem_cons_succ, Act.put, List.setIfInBounds_toArray, List.set_cons_zero, List.set_cons_succ]
            refine wpAnyH_take (i := 6) (v := ?_) rfl (by kernel_rfl) (by kernel_rfl) (by kernel_rfl) (fun _ _ _ h => h) (Or.inl ⟨rfl, ?_⟩) (by assumption) ?_
            rotate_left
            · intro W hSw
              (try dsimp only at hSw)
              go_simp
              try with_reducible rfl
            try simp only [List.getElem_toArray, List.getElem_cons_zero, List.getElem_cons_succ, Act.put, List.setIfInBounds_toArray, List.set_cons_zero, List.set_cons_succ]
            refine wpAnyH_take (i := 7) (v := ?_) rfl (by kernel_rfl) (by kernel_rfl) (by kernel_rfl) (fun _ _ _ h => h) (Or.inl ⟨rfl, ?_⟩) (by assumption) ?_
            rotate_left
            · intro W hSw
              (try dsimp only at hSw)
              go_simp
              try with_reducible rfl
            try simp only [List.getElem_toArray, List.getElem_cons_zero, List.getElem_cons_succ, Act.put, List.setIfInBounds_toArray, List.set_cons_zero, List.set_cons_succ]
            refine wpAnyH_take (i := 8) (v := ?_) rfl (by kernel_rfl) (by kernel_rfl) (by kernel_rfl) (fun _ _ _ h => h) (Or.inl ⟨rfl, ?_⟩) (by assumption) ?_
            rotate_left
            · intro W hSw
              (try dsimp only at hSw)
              go_simp
              try with_reducible rfl
            try simp only [List.getElem_toArray, List.getElem_cons_zero, List.getElem_cons_succ, Act.put, List.setIfInBounds_toArray, List.set_cons_zero, List.set_cons_succ]
            refine wpAnyH_take (i := 9) (v := ?_) rfl (by kernel_rfl) (by kernel_rfl) (by kernel_rfl) (fun _ _ _ h => h) (Or.inl ⟨rfl, ?_⟩) (by assumption) ?_
            rotate_left
            · intro W hSw
              (try dsimp only at hSw)
              go_simp
              try with_reducible rfl
            try simp only [List.getElem_toArray, List.getElem_cons_zero, List.getElem_cons_succ, Act.put, List.setIfInBounds_toArray, List.set_cons_zero, List.set_cons_succ]
            refine wpAnyH_take (i := 10) (v := ?_) rfl (by kernel_rfl) (by kernel_rfl) (by kernel_rfl) (fun _ _ _ h => h) (Or.inl ⟨rfl, ?_⟩) (by assumption) ?_
            rotate_left
            · intro W hSw
              (try dsimp only at hSw)
              go_simp
              try with_reducible rfl
            try simp only [List.getElem_toArray, List.getElem_cons_zero, List.getElem_cons_succ, Act.put, List.setIfInBounds_toArray, List.set_cons_zero, List.set_cons_succ]
            refine wpAnyH_take (i := 11) (v := undef) rfl (by kernel_rfl) (by kernel_rfl) (by kernel_rfl) (fun _ _ _ h => h) (Or.inr ⟨rfl, rfl⟩) (by assumption) ?_
            try simp only [List.getElem_toArray, List.getElem_cons_zero, List.getElem_cons_succ, Act.put, List.setIfInBounds_toArray, List.set_cons_zero, List.set_cons_succ]
            refine wpAnyH_take (i := 12) (v := ?_) rfl (by kernel_rfl) (by kernel_rfl) (by kernel_rfl) (fun _ _ _ h => h) (Or.inl ⟨rfl, ?_⟩) (by assumption) ?_
            rotate_left
            · intro W hSw
              (try dsimp only at hSw)
              go_simp
              try with_reducible rfl
            try simp only [List.getElem_toArray, List.getElem_cons_zero, List.getElem_cons_succ, Act.put, List.setIfInBounds_toArray, List.set_cons_zero, List.set_cons_succ]
            refine wpAnyH_take (i := 13) (v := ?_) rfl (by kernel_rfl) (by kernel_rfl) (by kernel_rfl) (fun _ _ _ h => h) (Or.inl ⟨rfl, ?_⟩) (by assumption) ?_
            rotate_left
            · intro W hSw
              (try dsimp only at hSw)
              go_simp
              try with_reducible rfl
            try simp only [List.getElem_toArray, List.getElem_cons_zero, List.getElem_cons_succ, Act.put, List.setIfInBounds_toArray, List.set_cons_zero, List.set_cons_succ]
            refine wpAnyH_take (i := 14) (v := ?_) rfl (by kernel_rfl) (by kernel_rfl) (by kernel_rfl) (fun _ _ _ h => h) (Or.inl ⟨rfl, ?_⟩) (by assumption) ?_
            rotate_left
            · intro W hSw
              (try dsimp only at hSw)
              go_simp
              try with_reducible rfl
            try simp only [List.getElem_toArray, List.getElem_cons_zero, List.getElem_cons_succ, Act.put, List.setIfInBounds_toArray, List.set_cons_zero, List.set_cons_succ]
            refine wpAnyH_take (i := 15) (v := ?_) rfl (by kernel_rfl) (by kernel_rfl) (by kernel_rfl) (fun _ _ _ h => h) (Or.inl ⟨rfl, ?_⟩) (by assumption) ?_
            rotate_left
            · intro W hSw
              (try dsimp only at hSw)
              go_simp
              try with_reducible rfl
            try simp only [List.getElem_toArray, List.getElem_cons_zero, List.getElem_cons_succ, Act.put, List.setIfInBounds_toArray, List.set_cons_zero, List.set_cons_succ]
            refine wpAnyH_take (i := 16) (v := ?_) rfl (by kernel_rfl) (by kernel_rfl) (by kernel_rfl) (fun _ _ _ h => h) (Or.inl ⟨rfl, ?_⟩) (by assumption) ?_
            rotate_left
            · intro W hSw
              (try dsimp only at hSw)
              go_simp
              try with_reducible rfl
            try simp only [List.getElem_toArray, List.getElem_cons_zero, List.getElem_cons_succ, Act.put, List.setIfInBounds_toArray, List.set_cons_zero, List.set_cons_succ]
            refine wpAnyH_take (i := 17) (v := ?_) rfl (by kernel_rfl) (by kernel_rfl) (by kernel_rfl) (fun _ _ _ h => h) (Or.inl ⟨rfl, ?_⟩) (by assumption) ?_
            rotate_left
            · intro W hSw
              (try dsimp only at hSw)
              go_simp
              try with_reducible rfl
            try simp only [List.getElem_toArray, List.getElem_cons_zero, List.getElem_cons_succ, Act.put, List.setIfInBounds_toArray, List.set_cons_zero, List.set_cons_succ]
            refine wpAnyH_take (i := 18) (v := undef) rfl (by kernel_rfl) (by kernel_rfl) (by kernel_rfl) (fun _ _ _ h => h) (Or.inr ⟨rfl, rfl⟩) (by assumption) ?_
            try simp only [List.getElem_toArray, List.getElem_cons_zero, List.getElem_cons_succ, Act.put, List.setIfInBounds_toArray, List.set_cons_zero, List.set_cons_succ]
            refine wpAnyH_take (i := 19) (v := undef) rfl (by kernel_rfl) (by kernel_rfl) (by kernel_rfl) (fun _ _ _ h => h) (Or.inr ⟨rfl, rfl⟩) (by assumption) ?_
            try simp only [List.getElem_toArray, List.getElem_cons_zero, List.getElem_cons_succ, Act.put, List.setIfInBounds_toArray, List.set_cons_zero, List.set_cons_succ]
            refine wpAnyH_take (i := 20) (v := undef) rfl (by kernel_rfl) (by kernel_rfl) (by kernel_rfl) (fun _ _ _ h => h) (Or.inr ⟨rfl, rfl⟩) (by assumption) ?_
            try simp only [List.getElem_toArray, List.getElem_cons_zero, List.getElem_cons_succ, Act.put, List.setIfInBounds_toArray, List.set_cons_zero, List.set_cons_succ]
            refine wpAnyH_take (i := 21) (v := undef) rfl (by kernel_rfl) (by kernel_rfl) (by kernel_rfl) (fun _ _ _ h => h) (Or.inr ⟨rfl, rfl⟩) (by assumption) ?_
            try simp only [List.getElem_toArray, List.getElem_cons_zero, List.getElem_cons_succ, Act.put, List.setIfInBounds_toArray, List.set_cons_zero, List.set_cons_succ]
            refine wpAnyH_take (i := 22) (v := undef) rfl (by kernel_rfl) (by kernel_rfl) (by kernel_rfl) (fun _ _ _ h => h) (Or.inr ⟨rfl, rfl⟩) (by assumption) ?_
            try simp only [List.getElem_toArray, List.getElem_cons_zero, List.getElem_cons_succ, Act.put, List.setIfInBounds_toArray, List.set_cons_zero, List.set_cons_succ]
            refine wpAnyH_take (i := 23) (v := undef) rfl (by kernel_rfl) (by kernel_rfl) (by kernel_rfl) (fun _ _ _ h => h) (Or.inr ⟨rfl, rfl⟩) (by assumption) ?_
            try simp only [List.getElem_toArray, List.getElem_cons_zero, List.getElem_cons_succ, Act.put, List.setIfInBounds_toArray, List.set_cons_zero, List.set_cons_succ]
            refine wpAnyH_take (i := 24) (v := undef) rfl (by kernel_rfl) (by kernel_rfl) (by kernel_rfl) (fun _ _ _ h => h) (Or.inr ⟨rfl, rfl⟩) (by assumption) ?_
            try simp only [List.getElem_toArray, List.getElem_cons_zero, List.getElem_cons_succ, Act.put, List.setIfInBounds_toArray, List.set_cons_zero, List.set_cons_succ]
            refine wpAnyH_take (i := 25) (v := ?_) rfl (by kernel_rfl) (by kernel_rfl) (by kernel_rfl) (fun _ _ _ h => h) (Or.inl ⟨rfl, ?_⟩) (by assumption) ?_
            rotate_left
            · intro W hSw
              (try dsimp only at hSw)
              go_simp
              try with_reducible rfl
            try simp only [List.getElem_toArray, List.getElem_cons_zero, List.getElem_cons_succ, Act.put, List.setIfInBounds_toArray, List.set_cons_zero, List.set_cons_succ]
            refine wpAnyH_take (i := 26) (v := ?_) rfl (by kernel_rfl) (by kernel_rfl) (by kernel_rfl) (fun _ _ _ h => h) (Or.inl ⟨rfl, ?_⟩) (by assumption) ?_
            rotate_left
            · intro W hSw
              (try dsimp only at hSw)
              go_simp
              try with_reducible rfl
            try simp only [List.getElem_toArray, List.getElem_cons_zero, List.getElem_cons_succ, Act.put, List.setIfInBounds_toArray, List.set_cons_zero, List.set_cons_succ]
            refine wpAnyH_done (by kernel_rfl) ?_ _
            (try dsimp only [NoPanic])
            go_wp2_with fail
            go_meet
            exact ⟨_, rfl, fun h => absurd h (by decide), fun _ => ⟨bs, L, D, (st5.out.below ((Below.refl _ _).drew)).more⟩⟩
          ·
            have e0 : cv = 162 := hcv.out.symm.trans hc
            subst e0
            have hx := hE (by rw [hc]; decide)
            rw [hc] at hx
            rw [hx] at ha
            clear hx hE hc
            replace ha := Lib.hid ha
            go_wp2_with (go_at_call 26; (with_reducible refine ha.out.mono ?_); rintro e w5 ⟨u5, rfl, hu5, hb5⟩; replace hu5 : u5 = _ := hu5; subst hu5; have st5 := Lib.hid (st4.out.below hb5); have X65 := Lib.hid (X64.out.below hb5); clear hb5)
            have hS := Lib.hid (show ∀ W : World, Below w5.heap.size w5 W → (fun W => W.cell? ⟨B6, 1, none⟩ = some (.string (S nm))) W from fun W hW => (X65.out.below hW).get 1 _ rfl)
            refine wp_region_noPanic ?_
            refine wp_region_held_drew (S := fun W => W.cell? ⟨B6, 1, none⟩ = some (.string (S nm))) (by kernel_rfl) (hS.out _ ((Below.refl w5.heap.size w5).drew)) (fun hHeld => ?_)
            refine wpAnyH_take (i := 0) (v := ?_) rfl (by kernel_rfl) (by kernel_rfl) (by kernel_rfl) (fun _ _ _ h => h) (Or.inl ⟨rfl, ?_⟩) (by assumption) ?_
            rotate_left
            · intro W hSw
              (try dsimp only at hSw)
              go_simp
              try with_reducible rfl
            try simp only [List.getElem_toArray, List.getElem_cons_zero, List.getElem_cons_succ, Act.put, List.setIfInBounds_toArray, List.set_cons_zero, List.set_cons_succ]
            refine wpAnyH_take (i := 1) (v := ?_) rfl (by kernel_rfl) (by kernel_rfl) (by kernel_rfl) (fun _ _ _ h => h) (Or.inl ⟨rfl, ?_⟩) (by assumption) ?_
            rotate_left
            · intro W hSw
              (try dsimp only at hSw)
              go_simp
              try with_reducible rfl
            try simp only [List.getElem_toArray, List.getElem_cons_zero, List.getElem_cons_succ, Act.put, List.setIfInBounds_toArray, List.set_cons_zero, List.set_cons_succ]
            refine wpAnyH_take (i := 2) (v := undef) rfl (by kernel_rfl) (by kernel_rfl) (by kernel_rfl) (fun _ _ _ h => h) (Or.inr ⟨rfl, rfl⟩) (by assumption) ?_
            try simp only [List.getElem_toArray, List.getElem_cons_zero, List.getElem_cons_succ, Act.put, List.setIfInBounds_toArray, List.set_cons_zero, List.set_cons_succ]
            refine wpAnyH_take (i := 3) (v := undef) rfl (by kernel_rfl) (by kernel_rfl) (by kernel_rfl) (fun _ _ _ h => h) (Or.inr ⟨rfl, rfl⟩) (by assumption) ?_
            try simp only [List.getElem_toArray, List.getElem_cons_zero, List.getElem_cons_succ, Act.put, List.setIfInBounds_toArray, List.set_cons_zero, List.set_cons_succ]
            refine wpAnyH_take (i := 4) (v := undef) rfl (by kernel_rfl) (by kernel_rfl) (by kernel_rfl) (fun _ _ _ h => h) (Or.inr ⟨rfl, rfl⟩) (by assumption) ?_
            try simp only [List.getElem_toArray, List.getElem_cons_zero, List.getElem_cons_succ, Act.put, List.setIfInBounds_toArray, List.set_cons_zero, List.set_cons_succ]
            refine wpAnyH_take (i := 5) (v := undef) rfl (by kernel_rfl) (by kernel_rfl) (by kernel_rfl) (fun _ _ _ h => h) (Or.inr ⟨rfl, rfl⟩) (by assumption) ?_
            try simp only [List.getElem_toArray, List.getElem_cons_zero, List.getElem_cons_succ, Act.put, List.setIfInBounds_toArray, List.set_cons_zero, List.set_cons_succ]
            refine wpAnyH_take (i := 6) (v := ?_) rfl (by kernel_rfl) (by kernel_rfl) (by kernel_rfl) (fun _ _ _ h => h) (Or.inl ⟨rfl, ?_⟩) (by assumption) ?_
            rotate_left
            · intro W hSw
              (try dsimp only at hSw)
              go_simp
              try with_reducible rfl
            try simp only [List.getElem_toArray, List.getElem_cons_zero, List.getElem_cons_succ, Act.put, List.setIfInBounds_toArray, List.set_cons_zero, List.set_cons_succ]
            refine wpAnyH_take (i := 7) (v := ?_) rfl (by kernel_rfl) (by kernel_rfl) (by kernel_rfl) (fun _ _ _ h => h) (Or.inl ⟨rfl, ?_⟩) (by assumption) ?_
            rotate_left
            · intro W hSw
              (try dsimp only at hSw)
              go_simp
              try with_reducible rfl
            try simp only [List.getElem_toArray, List.getElem_cons_zero, List.getElem_cons_succ, Act.put, List.setIfInBounds_toArray, List.set_cons_zero, List.set_cons_succ]
            refine wpAnyH_take (i := 8) (v := ?_) rfl (by kernel_rfl) (by kernel_rfl) (by kernel_rfl) (fun _ _ _ h => h) (Or.inl ⟨rfl, ?_⟩) (by assumption) ?_
            rotate_left
            · intro W hSw
              (try dsimp only at hSw)
              go_simp
              try with_reducible rfl
            try simp only [List.getElem_toArray, List.getElem_cons_zero, List.getElem_cons_succ, Act.put, List.setIfInBounds_toArray, List.set_cons_zero, List.set_cons_succ]
            refine wpAnyH_take (i := 9) (v := ?_) rfl (by kernel_rfl) (by kernel_rfl) (by kernel_rfl) (fun _ _ _ h => h) (Or.inl ⟨rfl, ?_⟩) (by assumption) ?_
            rotate_left
            · intro W hSw
              (try dsimp only at hSw)
              go_simp
              try with_reducible rfl
            try simp only [List.getElem_toArray, List.getElem_cons_zero, List.getElem_cons_succ, Act.put, List.setIfInBounds_toArray, List.set_cons_zero, List.set_cons_succ]
            refine wpAnyH_take (i := 10) (v := ?_) rfl (by kernel_rfl) (by kernel_rfl) (by kernel_rfl) (fun _ _ _ h => h) (Or.inl ⟨rfl, ?_⟩) (by assumption) ?_
            rotate_left
            · intro W hSw
              (try dsimp only at hSw)
              go_simp
              try with_reducible rfl
            try simp only [List.getElem_toArray, List.getElem_cons_zero, List.getElem_cons_succ, Act.put, List.setIfInBounds_toArray, List.set_cons_zero, List.set_cons_succ]
            refine wpAnyH_take (i := 11) (v := undef) rfl (by kernel_rfl) (by kernel_rfl) (by kernel_rfl) (fun _ _ _ h => h) (Or.inr ⟨rfl, rfl⟩) (by assumption) ?_
            try simp only [List.getElem_toArray, List.getElem_cons_zero, List.getElem_cons_succ, Act.put, List.setIfInBounds_toArray, List.set_cons_zero, List.set_cons_succ]
            refine wpAnyH_take (i := 12) (v := ?_) rfl (by kernel_rfl) (by kernel_rfl) (by kernel_rfl) (fun _ _ _ h => h) (Or.inl ⟨rfl, ?_⟩) (by assumption) ?_
            rotate_left
            · intro W hSw
              (try dsimp only at hSw)
              go_simp
              try with_reducible rfl
            try simp only [List.getElem_toArray, List.getElem_cons_zero, List.getElem_cons_succ, Act.put, List.setIfInBounds_toArray, List.set_cons_zero, List.set_cons_succ]
            refine wpAnyH_take (i := 13) (v := ?_) rfl (by kernel_rfl) (by kernel_rfl) (by kernel_rfl) (fun _ _ _ h => h) (Or.inl ⟨rfl, ?_⟩) (by assumption) ?_
            rotate_left
            · intro W hSw
              (try dsimp only at hSw)
              go_simp
              try with_reducible rfl
            try simp only [List.getElem_toArray, List.getElem_cons_zero, List.getElem_cons_succ, Act.put, List.setIfInBounds_toArray, List.set_cons_zero, List.set_cons_succ]
            refine wpAnyH_take (i := 14) (v := ?_) rfl (by kernel_rfl) (by kernel_rfl) (by kernel_rfl) (fun _ _ _ h => h) (Or.inl ⟨rfl, ?_⟩) (by assumption) ?_
            rotate_left
            · intro W hSw
              (try dsimp only at hSw)
              go_simp
              try with_reducible rfl
            try simp only [List.getElem_toArray, List.getElem_cons_zero, List.getElem_cons_succ, Act.put, List.setIfInBounds_toArray, List.set_cons_zero, List.set_cons_succ]
            refine wpAnyH_take (i := 15) (v := ?_) rfl (by kernel_rfl) (by kernel_rfl) (by kernel_rfl) (fun _ _ _ h => h) (Or.inl ⟨rfl, ?_⟩) (by assumption) ?_
            rotate_left
            · intro W hSw
              (try dsimp only at hSw)
              go_simp
              try with_reducible rfl
            try simp only [List.getElem_toArray, List.getElem_cons_zero, List.getElem_cons_succ, Act.put, List.setIfInBounds_toArray, List.set_cons_zero, List.set_cons_succ]
            refine wpAnyH_take (i := 16) (v := ?_) rfl (by kernel_rfl) (by kernel_rfl) (by kernel_rfl) (fun _ _ _ h => h) (Or.inl ⟨rfl, ?_⟩) (by assumption) ?_
            rotate_left
            · intro W hSw
              (try dsimp only at hSw)
              go_simp
              try with_reducible rfl
            try simp only [List.getElem_toArray, List.getElem_cons_zero, List.getElem_cons_succ, Act.put, List.setIfInBounds_toArray, List.set_cons_zero, List.set_cons_succ]
            refine wpAnyH_take (i := 17) (v := ?_) rfl (by kernel_rfl) (by kernel_rfl) (by kernel_rfl) (fun _ _ _ h => h) (Or.inl ⟨rfl, ?_⟩) (by assumption) ?_
            rotate_left
            · intro W hSw
              (try dsimp only at hSw)
              go_simp
              try with_reducible rfl
            try simp only [List.getElem_toArray, List.getElem_cons_zero, List.getElem_cons_succ, Act.put, List.setIfInBounds_toArray, List.set_cons_zero, List.set_cons_succ]
            refine wpAnyH_take (i := 18) (v := undef) rfl (by kernel_rfl) (by kernel_rfl) (by kernel_rfl) (fun _ _ _ h => h) (Or.inr ⟨rfl, rfl⟩) (by assumption) ?_
            try simp only [List.getElem_toArray, List.getElem_cons_zero, List.getElem_cons_succ, Act.put, List.setIfInBounds_toArray, List.set_cons_zero, List.set_cons_succ]
            refine wpAnyH_take (i := 19) (v := undef) rfl (by kernel_rfl) (by kernel_rfl) (by kernel_rfl) (fun _ _ _ h => h) (Or.inr ⟨rfl, rfl⟩) (by assumption) ?_
            try simp only [List.getElem_toArray, List.getElem_cons_zero, List.getElem_cons_succ, Act.put, List.setIfInBounds_toArray, List.set_cons_zero, List.set_cons_succ]
            refine wpAnyH_take (i := 20) (v := undef) rfl (by kernel_rfl) (by kernel_rfl) (by kernel_rfl) (fun _ _ _ h => h) (Or.inr ⟨rfl, rfl⟩) (by assumption) ?_
            try simp only [List.getElem_toArray, List.getElem_cons_zero, List.getElem_cons_succ, Act.put, List.setIfInBounds_toArray, List.set_cons_zero, List.set_cons_succ]
            refine wpAnyH_take (i := 21) (v := undef) rfl (by kernel_rfl) (by kernel_rfl) (by kernel_rfl) (fun _ _ _ h => h) (Or.inr ⟨rfl, rfl⟩) (by assumption) ?_
            try simp only [List.getElem_toArray, List.getElem_cons_zero, List.getElem_cons_succ, Act.put, List.setIfInBounds_toArray, List.set_cons_zero, List.set_cons_succ]
            refine wpAnyH_take (i := 22) (v := undef) rfl (by kernel_rfl) (by kernel_rfl) (by kernel_rfl) (fun _ _ _ h => h) (Or.inr ⟨rfl, rfl⟩) (by assumption) ?_
            try simp only [List.getElem_toArray, List.getElem_cons_zero, List.getElem_cons_succ, Act.put, List.setIfInBounds_toArray, List.set_cons_zero, List.set_cons_succ]
            refine wpAnyH_take (i := 23) (v := undef) rfl (by kernel_rfl) (by kernel_rfl) (by kernel_rfl) (fun _ _ _ h => h) (Or.inr ⟨rfl, rfl⟩) (by assumption) ?_
            try simp only [List.getElem_toArray, List.getElem_cons_zero, List.getElem_cons_succ, Act.put, List.setIfInBounds_toArray, List.set_cons_zero, List.set_cons_succ]
            refine wpAnyH_take (i := 24) (v := undef) rfl (by kernel_rfl) (by kernel_rfl) (by kernel_rfl) (fun _ _ _ h => h) (Or.inr ⟨rfl, rfl⟩) (by assumption) ?_
            try simp only [List.getElem_toArray, List.getElem_cons_zero, List.getElem_cons_succ, Act.put, List.setIfInBounds_toArray, List.set_cons_zero, List.set_cons_succ]
            refine wpAnyH_take (i := 25) (v := ?_) rfl (by kernel_rfl) (by kernel_rfl) (by kernel_rfl) (fun _ _ _ h => h) (Or.inl ⟨rfl, ?_⟩) (by assumption) ?_
            rotate_left
            · intro W hSw
              (try dsimp only at hSw)
              go_simp
              try with_reducible rfl
            try simp only [List.getElem_toArray, List.getElem_cons_zero, List.getElem_cons_succ, Act.put, List.setIfInBounds_toArray, List.set_cons_zero, List.set_cons_succ]
            refine wpAnyH_take (i := 26) (v := ?_) rfl (by kernel_rfl) (by kernel_rfl) (by kernel_rfl) (fun _ _ _ h => h) (Or.inl ⟨rfl, ?_⟩) (by assumption) ?_
            rotate_left
            · intro W hSw
              (try dsimp only at hSw)
              go_simp
              try with_reducible rfl
            try simp only [List.getElem_toArray, List.getElem_cons_zero, List.getElem_cons_succ, Act.put, List.setIfInBounds_toArray, List.set_cons_zero, List.set_cons_succ]
            refine wpAnyH_done (by kernel_rfl) ?_ _
            (try dsimp only [NoPanic])
            go_wp2_with fail
            go_meet
            exact ⟨_, rfl, fun h => absurd h (by decide), fun _ => ⟨bs, L, D, (st5.out.below ((Below.refl _ _).drew)).more⟩⟩
        have z0 : (act == 0) = false := by simpa using a0
        clear a0
        by_cases a1 : act = 1
        ·
          have z1 : (act == 1) = true := by simpa using a1
          clear a1
          have ha := rem_any bs nm u3 w4 st4.out.rd
          rcases is with _ | _
          ·
            have hn : nm ∉ Nm.names L := fun h => by have := hiff.out.2 h; cases this
            have hx := Nm.rem_map_none hr.out hn
            rw [hx] at ha
            have hrep := Lib.hid (Nm.rep_del_none st4.out.rep hn)
            clear hx hn
            replace ha := Lib.hid ha
            go_wp2_with (first | (go_at_call 27; (with_reducible refine ha.out.mono ?_); rintro e w5 ⟨u5, rfl, hu5, hb5⟩; replace hu5 : u5 = _ := hu5; subst hu5; have st5 := Lib.hid (st4.out.below hb5); have X65 := Lib.hid (X64.out.below hb5); clear hb5; clear y0 y1 y2 y3 b0; have y0 := X65.out.get 0 _ rfl; have y1 := X65.out.get 1 _ rfl; have y2 := X65.out.get 2 _ rfl; have y3 := X65.out.get 3 _ rfl; have b0 := st5.out.box.get 0 _ rfl; have hm5 := st5.out.map) | (at_delete; refine wpList_delete_own _ rfl _ _ 52 9 rfl 24 law9 Try.underlying52 entElem M k D rfl hm5 _ _ rfl (show keyOf Try.prog 9 (.string (S nm)) = some (.string nm) from WideMaps.keyOf_string_mk Try.underlying9 (by simpa using hkl)) ?_; intro w7 hm7 ht7))
            go_meet
            exact ⟨4, rfl, fun h => absurd h (by decide), fun _ => ⟨bs, L, _, (st5.out.turned ht7.grown hm7 st5.out.rd hr.out hf.out hrep.out).more⟩⟩
          ·
            obtain ⟨c, L', A, x, B, hx, hL', hf', hE1, hnm, hA, hE2, hrr⟩ := Nm.rem_map hr.out hf.out (hiff.out.1 rfl)
            rw [hx] at ha
            have hnd := st4.out.nodup
            rw [hE1] at hnd
            obtain ⟨hA', hB', _⟩ := Nm.nodup_mid hnd
            have hrep : Nm.Rep (D.del (.string nm)) (Nm.entsOf L') := by rw [hE2, ← hnm]; exact Nm.rep_del (by rw [← hE1]; exact st4.out.rep) hA' hB'
            clear hx hE1 hE2 hA hA' hB' hnd hnm
            replace ha := Lib.hid ha
            replace hrep := Lib.hid hrep
            have hrm1 := Lib.hid (fun v W h => room_any c v W h)
            have hrm2 := Lib.hid (fun W h => room_any bs u3 W h)
            obtain ⟨m1, hm1⟩ : ∃ m, Nm.room c = m := ⟨_, rfl⟩
            obtain ⟨m2, hm2⟩ : ∃ m, Nm.room bs = m := ⟨_, rfl⟩
            have hle : ¬ m1 < m2 := by rw [← hm1, ← hm2, Nm.room_of hr.out, Nm.room_of hL']; omega
            rw [hm1] at hrm1
            rw [hm2] at hrm2
            clear hm1 hm2 hrr
            replace hL' := Lib.hid hL'
            replace hf' := Lib.hid hf'
            go_wp2_with (go_at_call 27; (with_reducible refine ha.out.mono ?_); rintro e w5 ⟨u5, rfl, ⟨g5, cap5, rfl, _, ho5⟩, hb5⟩; have r5 := Lib.hid ho5.rd; have st5 := Lib.hid (st4.out.below hb5); have X65 := Lib.hid (X64.out.below hb5); clear hb5 ho5)
            refine (hrm1.out _ _ r5.out).mono ?_
            rintro e w6 ⟨rfl, hb6⟩
            have st6 := Lib.hid (st5.out.below hb6)
            have r6 := Lib.hid (r5.out.below hb6)
            have X66 := Lib.hid (X65.out.below hb6)
            clear hb6 st5 r5 X65
            go_wp2_with fail
            refine (hrm2.out _ st6.out.rd).mono ?_
            rintro e w8 ⟨rfl, hb6⟩
            have st5 := Lib.hid (st6.out.below hb6)
            have r5 := Lib.hid (r6.out.below hb6)
            have X65 := Lib.hid (X66.out.below hb6)
            clear hb6 st6 r6 X66 y0 y1 y2 y3 b0
            have y0 := X65.out.get 0 _ rfl
            have y1 := X65.out.get 1 _ rfl
            have y2 := X65.out.get 2 _ rfl
            have y3 := X65.out.get 3 _ rfl
            have b0 := st5.out.box.get 0 _ rfl
            have hm5 := st5.out.map
            go_wp2_with (at_delete; refine wpList_delete_own _ rfl _ _ 52 9 rfl 24 law9 Try.underlying52 entElem M k D rfl hm5 _ _ rfl (show keyOf Try.prog 9 (.string (S nm)) = some (.string nm) from WideMaps.keyOf_string_mk Try.underlying9 (by simpa using hkl)) ?_; intro w7 hm7 ht7)
            go_meet
            exact ⟨0, rfl, fun _ => ⟨_, L', _, (st5.out.turned ht7.grown hm7 r5.out hL'.out hf'.out hrep.out).more⟩, fun h => absurd rfl h⟩
        have z1 : (act == 1) = false := by simpa using a1
        clear a1
        by_cases a2 : act = 2
        ·
          have z2 : (act == 2) = true := by simpa using a2
          clear a2
          have ha := turn_any bs ⟨nm, ino, kd⟩ u3 w4 st4.out.rd
          unfold entV at ha
          dsimp only at ha
          have hE := @Nm.turn_bad bs ⟨nm, ino, kd⟩
          rcases Nm.chk_vals ⟨nm, ino, kd⟩ with hc | hc | hc
          ·
            have e0 : cv = 0 := hcv.out.symm.trans hc
            subst e0
            clear hE
            rcases is with _ | _
            ·
              have hn : nm ∉ Nm.names L := fun h => by have := hiff.out.2 h; cases this
              have hx := Nm.turn_map_none (e := ⟨nm, ino, kd⟩) hr.out hc hn
              rw [hx] at ha
              clear hx hn hc
              replace ha := Lib.hid ha
              go_wp2_with (go_at_call 31; (with_reducible refine ha.out.mono ?_); rintro e w5 ⟨u5, rfl, hu5, hb5⟩; replace hu5 : u5 = _ := hu5; subst hu5; have st5 := Lib.hid (st4.out.below hb5); have X65 := Lib.hid (X64.out.below hb5); clear hb5; clear y0 y1 y2 y3 b0; have y0 := X65.out.get 0 _ rfl; have y1 := X65.out.get 1 _ rfl; have y2 := X65.out.get 2 _ rfl; have y3 := X65.out.get 3 _ rfl; have b0 := st5.out.box.get 0 _ rfl; have hm5 := st5.out.map)
              go_meet
              exact ⟨_, rfl, fun h => absurd h (by decide), fun _ => ⟨bs, L, D, st5.out.more⟩⟩
            ·
              obtain ⟨c, L', A, x, B, hx, hL', hf', hE1, hnm, hA, hE2⟩ := Nm.turn_map (e := ⟨nm, ino, kd⟩) hr.out hf.out hc (hiff.out.1 rfl)
              rw [hx] at ha
              have hrep : Nm.Rep (D.put (.string nm) (entD ⟨nm, ino, kd⟩)) (Nm.entsOf L') := by rw [hE2]; exact Nm.rep_turn (e := ⟨nm, ino, kd⟩) (by rw [← hE1]; exact st4.out.rep) hnm hA
              clear hx hE1 hE2 hA hnm hc
              replace ha := Lib.hid ha
              replace hrep := Lib.hid hrep
              replace hL' := Lib.hid hL'
              replace hf' := Lib.hid hf'
              go_wp2_with (first | (go_at_call 31; (with_reducible refine ha.out.mono ?_); rintro e w5 ⟨u5, rfl, ⟨g5, cap5, rfl, _, ho5⟩, hb5⟩; have r5 := Lib.hid ho5.rd; have st5 := Lib.hid (st4.out.below hb5); have X65 := Lib.hid (X64.out.below hb5); clear hb5 ho5; clear y0 y1 y2 y3 b0; have y0 := X65.out.get 0 _ rfl; have y1 := X65.out.get 1 _ rfl; have y2 := X65.out.get 2 _ rfl; have y3 := X65.out.get 3 _ rfl; have b0 := st5.out.box.get 0 _ rfl; have hm5 := st5.out.map) | (at_mapUpdate; refine wpList_mapUpdate_own _ rfl _ _ _ 52 rfl 9 24 law9 Try.underlying52 entElem M k D rfl hm5 (by unfold maxLen; omega) _ _ (.string nm) rfl rfl (show keyOf Try.prog 9 (.string (S nm)) = some (.string nm) from WideMaps.keyOf_string_mk Try.underlying9 (by simpa using hkl)) _ [] (entElem_mk ⟨nm, ino, kd⟩) ?_; intro w7 hm7 hg7))
              go_meet
              exact ⟨0, rfl, fun _ => ⟨_, L', _, st5.out.turned hg7 hm7 r5.out hL'.out hf'.out hrep.out⟩, fun h => absurd rfl h⟩
          ·
            have e0 : cv = 161 := hcv.out.symm.trans hc
            subst e0
            have hx := hE (by rw [hc]; decide)
            rw [hc] at hx
            rw [hx] at ha
            clear hx hE hc
            replace ha := Lib.hid ha
            rcases is with _ | _
            ·
              go_wp2_with (go_at_call 31; (with_reducible refine ha.out.mono ?_); rintro e w5 ⟨u5, rfl, hu5, hb5⟩; replace hu5 : u5 = _ := hu5; subst hu5; have st5 := Lib.hid (st4.out.below hb5); have X65 := Lib.hid (X64.out.below hb5); clear hb5; clear y0 y1 y2 y3 b0; have y0 := X65.out.get 0 _ rfl; have y1 := X65.out.get 1 _ rfl; have y2 := X65.out.get 2 _ rfl; have y3 := X65.out.get 3 _ rfl; have b0 := st5.out.box.get 0 _ rfl; have hm5 := st5.out.map)
              go_meet
              exact ⟨_, rfl, fun h => absurd h (by decide), fun _ => ⟨bs, L, D, st5.out.more⟩⟩
            ·
              go_wp2_with (go_at_call 31; (with_reducible refine ha.out.mono ?_); rintro e w5 ⟨u5, rfl, hu5, hb5⟩; replace hu5 : u5 = _ := hu5; subst hu5; have st5 := Lib.hid (st4.out.below hb5); have X65 := Lib.hid (X64.out.below hb5); clear hb5; clear y0 y1 y2 y3 b0; have y0 := X65.out.get 0 _ rfl; have y1 := X65.out.get 1 _ rfl; have y2 := X65.out.get 2 _ rfl; have y3 := X65.out.get 3 _ rfl; have b0 := st5.out.box.get 0 _ rfl; have hm5 := st5.out.map)
              go_meet
              exact ⟨_, rfl, fun h => absurd h (by decide), fun _ => ⟨bs, L, D, st5.out.more⟩⟩
          ·
            have e0 : cv = 162 := hcv.out.symm.trans hc
            subst e0
            have hx := hE (by rw [hc]; decide)
            rw [hc] at hx
            rw [hx] at ha
            clear hx hE hc
            replace ha := Lib.hid ha
            rcases is with _ | _
            ·
              go_wp2_with (go_at_call 31; (with_reducible refine ha.out.mono ?_); rintro e w5 ⟨u5, rfl, hu5, hb5⟩; replace hu5 : u5 = _ := hu5; subst hu5; have st5 := Lib.hid (st4.out.below hb5); have X65 := Lib.hid (X64.out.below hb5); clear hb5; clear y0 y1 y2 y3 b0; have y0 := X65.out.get 0 _ rfl; have y1 := X65.out.get 1 _ rfl; have y2 := X65.out.get 2 _ rfl; have y3 := X65.out.get 3 _ rfl; have b0 := st5.out.box.get 0 _ rfl; have hm5 := st5.out.map)
              go_meet
              exact ⟨_, rfl, fun h => absurd h (by decide), fun _ => ⟨bs, L, D, st5.out.more⟩⟩
            ·
              go_wp2_with (go_at_call 31; (with_reducible refine ha.out.mono ?_); rintro e w5 ⟨u5, rfl, hu5, hb5⟩; replace hu5 : u5 = _ := hu5; subst hu5; have st5 := Lib.hid (st4.out.below hb5); have X65 := Lib.hid (X64.out.below hb5); clear hb5; clear y0 y1 y2 y3 b0; have y0 := X65.out.get 0 _ rfl; have y1 := X65.out.get 1 _ rfl; have y2 := X65.out.get 2 _ rfl; have y3 := X65.out.get 3 _ rfl; have b0 := st5.out.box.get 0 _ rfl; have hm5 := st5.out.map)
              go_meet
              exact ⟨_, rfl, fun h => absurd h (by decide), fun _ => ⟨bs, L, D, st5.out.more⟩⟩
        have z2 : (act == 2) = false := by simpa using a2
        clear a2
        go_wp2_with fail
        go_meet
        exact ⟨_, rfl, fun h => absurd h (by decide), fun _ => ⟨bs, L, D, st4.out.more⟩⟩
      case rest =>
        obtain ⟨en, rfl, h0, h1⟩ := hcut
        clear y0 y1 y2 y3 b0 st4 X64 his hcv hkl
        by_cases he : en = 0
        ·
          have ze : (en == 0) = true := by simpa using he
          obtain ⟨bs', L', D', st⟩ := h0 he
          clear h0 h1 he
          have htell := Lib.hid (tell_any bs' _ (Nm.ents_of st.rcs) _ wc st.rd)
          replace st := Lib.hid st
          go_wp2_with fail
          refine htell.out.mono ?_
          rintro e wd ⟨Bl, rfl, hb, ht⟩
          have st1 := Lib.hid (st.out.below hb)
          replace ht := Lib.hid ht
          clear hb st htell
          go_wp2_with fail
          refine ht.out.mono ?_
          rintro e we ⟨ul, rfl, rl, hb⟩
          have st2 := Lib.hid (st1.out.below hb)
          clear hb st1 ht
          obtain ⟨ta, tc, rfl⟩ := rl.len
          have hst := state_any bs' _ we st2.out.rd
          rw [show stateOf bs' = 0 by unfold stateOf; rw [st2.out.rcs]; rfl] at hst
          replace hst := Lib.hid hst
          replace rl := Lib.hid rl
          go_wp2_with fail
          refine hst.out.mono ?_
          rintro e wf ⟨rfl, hb⟩
          have st3 := Lib.hid (st2.out.below hb)
          have rl3 := rl.out.below hb
          clear hb st2 rl hst
          have b0 := st3.out.box.get 0 _ rfl
          have hln := fun ty => st3.out.map.len Try.underlying52 ty
          rw [st3.out.rep.size] at hln
          have hel := Nm.ents_len st3.out.rcs
          have hcn := Lib.hid (contains_none ⟨Bm, 0, none⟩ (Nm.entsOf L') _ wf rl3 (by omega) (fun e he W hW => map1_any e Bm M _ D' _ W (st3.out.box.below hW) (map_below st3.out.map hW) st3.out.rep (by have := Nm.ents_short st3.out.rcs he; unfold maxLen; omega) (Nm.findIn_mem st3.out.nodup he)))
          clear rl3
          obtain ⟨N, hN⟩ : ∃ N, (Nm.entsOf L').length = N := ⟨_, rfl⟩
          rw [hN] at hln hcn hel ⊢
          clear hN
          go_wp2_with fail
          refine hcn.out.mono ?_
          rintro e wg ⟨rfl, hb⟩
          have st4 := Lib.hid (st3.out.below hb)
          clear hb st3 hcn hln b0
          go_wp2_with fail
          go_roundw
          case rel => exact ⟨k + 1, by omega, by go_num, _, _, _, st4.out⟩
          case measure => simp [intOf]; omega
        ·
          have ze : (en == 0) = false := by simpa using he
          obtain ⟨bs', L', D', st⟩ := h1 he
          clear h0 h1 he
          have htell := Lib.hid (tell_any bs' _ (Nm.ents_of st.rcs) _ wc st.rd)
          replace st := Lib.hid st
          go_wp2_with fail
          refine htell.out.mono ?_
          rintro e wd ⟨Bl, rfl, hb, ht⟩
          have st1 := Lib.hid (st.out.below hb)
          replace ht := Lib.hid ht
          clear hb st htell
          go_wp2_with fail
          refine ht.out.mono ?_
          rintro e we ⟨ul, rfl, rl, hb⟩
          have st2 := Lib.hid (st1.out.below hb)
          clear hb st1 ht
          obtain ⟨ta, tc, rfl⟩ := rl.len
          have hst := state_any bs' _ we st2.out.rd
          rw [show stateOf bs' = 0 by unfold stateOf; rw [st2.out.rcs]; rfl] at hst
          replace hst := Lib.hid hst
          replace rl := Lib.hid rl
          go_wp2_with fail
          refine hst.out.mono ?_
          rintro e wf ⟨rfl, hb⟩
          have st3 := Lib.hid (st2.out.below hb)
          have rl3 := rl.out.below hb
          clear hb st2 rl hst
          have b0 := st3.out.box.get 0 _ rfl
          have hln := fun ty => st3.out.map.len Try.underlying52 ty
          rw [st3.out.rep.size] at hln
          have hel := Nm.ents_len st3.out.rcs
          have hcn := Lib.hid (contains_none ⟨Bm, 0, none⟩ (Nm.entsOf L') _ wf rl3 (by omega) (fun e he W hW => map1_any e Bm M _ D' _ W (st3.out.box.below hW) (map_below st3.out.map hW) st3.out.rep (by have := Nm.ents_short st3.out.rcs he; unfold maxLen; omega) (Nm.findIn_mem st3.out.nodup he)))
          clear rl3
          obtain ⟨N, hN⟩ : ∃ N, (Nm.entsOf L').length = N := ⟨_, rfl⟩
          rw [hN] at hln hcn hel ⊢
          clear hN
          go_wp2_with fail
          refine hcn.out.mono ?_
          rintro e wg ⟨rfl, hb⟩
          have st4 := Lib.hid (st3.out.below hb)
          clear hb st3 hcn hln b0
          go_wp2_with fail
          go_roundw
          case rel => exact ⟨k + 1, by omega, by go_num, _, _, _, st4.out⟩
          case measure => simp [intOf]; omega
    ·
      have hk' : k = kk := by omega
      subst hk'
      have htell := Lib.hid (tell_any bs _ (Nm.ents_of st.rcs) _ wr st.rd)
      replace st := Lib.hid st
      go_wp2_with fail
      refine htell.out.mono ?_
      rintro e wd ⟨Bl, rfl, hb, ht⟩
      have st1 := Lib.hid (st.out.below hb)
      replace ht := Lib.hid ht
      clear hb st htell
      go_wp2_with fail
      refine ht.out.mono ?_
      rintro e we ⟨ul, rfl, rl, hb⟩
      have st2 := Lib.hid (st1.out.below hb)
      clear hb st1 ht
      obtain ⟨ta, tc, rfl⟩ := rl.len
      have hEl := Nm.ents_len st2.out.rcs
      obtain ⟨E, hE⟩ : ∃ E, Nm.entsOf L = E := ⟨_, rfl⟩
      have h20 : ∃ bs L, RdB we u3 bs ∧ Nm.recs bs = some L ∧ Nm.FirstOnly L ∧ Nm.entsOf L = E.drop 0 ∧ Below we.heap.size we we := ⟨bs, L, st2.out.rd, st2.out.rcs, st2.out.fo, hE, Below.refl _ _⟩
      rw [hE] at rl hEl ⊢
      have hBw := Lib.hid st2.out.bel
      replace rl := Lib.hid rl
      clear st2 hE
      replace h20 := Lib.hid h20
      go_wp2_with fail
      go_loopw [3, 168] (fun v i wr => ∃ j : Nat, j ≤ E.length ∧ i = .int .i64 j ∧ ∃ bs L, RdB wr v bs ∧ Nm.recs bs = some L ∧ Nm.FirstOnly L ∧ Nm.entsOf L = E.drop j ∧ Below we.heap.size we wr) (fun _ i _ => E.length - (intOf i).toNat)
      case atStart => exact ⟨0, by omega, rfl, h20.out⟩
      case round =>
        clear h20
        obtain ⟨j, hj, rfl, bs', L', rb, hrc, hfo, hEd, hB⟩ := hrel
        by_cases hlt : j < E.length
        ·
          obtain ⟨bb, o, cc, hv, _, hbb, hcell⟩ := (rl.out.below hB).at (by intro e; rw [e] at hlt; simp at hlt)
          cases hv
          have c0 := hcell j hlt 0
          have c1 := hcell j hlt 1
          have c2 := hcell j hlt 2
          clear hcell
          rw [List.drop_eq_getElem_cons hlt] at hEd
          obtain ⟨q, hq⟩ : ∃ q, E[j] = q := ⟨_, rfl⟩
          rw [hq] at c0 c1 c2 hEd
          clear hq
          have hqn : q.name ∈ Nm.names L' := by unfold Nm.names; rw [hEd]; simp
          obtain ⟨c, L2, A, x, B, hx, hL2, hf2, hE1, hnm, hA, hE2, _⟩ := Nm.rem_map hrc hfo hqn
          have hA0 : A = [] := by
            rcases A with _ | ⟨a, A⟩
            · rfl
            · rw [hE1] at hEd
              have := (List.cons.inj hEd).1
              rw [this] at hA; simp at hA
          subst hA0
          have hE3 : Nm.entsOf L2 = E.drop (j + 1) := by rw [hE1] at hEd; rw [hE2]; exact (List.cons.inj hEd).2
          clear hA hnm hE1 hE2 hEd hqn hrc hfo
          obtain ⟨qn, qi, qk⟩ := q
          replace c0 := c0 _ rfl
          replace c1 := c1 _ rfl
          replace c2 := c2 _ rfl
          dsimp only at c0 c1 c2 hx
          replace c0 : wr.cell? ⟨bb, o + j * 3, none⟩ = _ := c0
          have hI0 : (0 : Int) ≤ (j : Int) := by omega
          have hI1 : (j : Int) < (E.length : Int) := by omega
          have bx := Box.new wr 24 #[.string (S qn), .int .i64 qi, .int .i64 qk]
          have hb := (Below.refl wr.heap.size wr).alloc (Nat.le_refl _) (.cells #[.string (S qn), .int .i64 qi, .int .i64 qk] 24)
          have x0 := bx.get 0 _ rfl
          have x1 := bx.get 1 _ rfl
          have x2 := bx.get 2 _ rfl
          have ha := rem_any bs' qn _ _ (rb.below hb)
          rw [hx] at ha
          have hB1 := Lib.hid (hB.trans (hb.mono hB.size))
          replace ha := Lib.hid ha
          replace hL2 := Lib.hid hL2
          replace hf2 := Lib.hid hf2
          replace hE3 := Lib.hid hE3
          clear hx bx hb rb hB
          go_wp2_with (go_at_call 27; (with_reducible refine ha.out.mono ?_); rintro e w5 ⟨u5, rfl, ⟨g5, cap5, rfl, _, ho5⟩, hb5⟩; have r5 := Lib.hid ho5.rd; have hB5 := Lib.hid (hB1.out.trans (hb5.mono hB1.out.size)); clear hb5 ho5)
          go_roundw
          case rel => exact ⟨j + 1, by omega, by go_num, c, L2, r5.out, hL2.out, hf2.out, hE3.out, hB5.out⟩
          case measure => simp [intOf]; omega
        ·
          have hj' : j = E.length := by omega
          subst hj'
          rw [List.drop_length] at hEd
          have hrm := room_any bs' _ wr rb
          rw [Nm.room_all hrc hfo hEd] at hrm
          replace hrm := Lib.hid hrm
          replace hB := Lib.hid hB
          clear rb hrc hfo hEd
          go_wp2_with fail
          refine hrm.out.mono ?_
          rintro e w5 ⟨rfl, hb⟩
          have hB5 := Lib.hid (hBw.out.trans ((hB.out.trans (hb.mono hB.out.size)).mono hBw.out.size))
          clear hb
          go_wp2_with fail
          go_ret
          exact ⟨rfl, hB5.out⟩
end Go.Proofs.Ytmlgjmcenjbbeaa
