import Derived.Test.YtlgjlhgdpiipbaaMae
/- New. -/
namespace Go.Proofs.Ytlgjlhgdpiipbaa
open Go.RowKit
theorem wpList_append_run {P : Program} {w : World} {ops : Array Oper} {rest : List Oper} {o : Oper} {a : Act} {Q : Exit → Act → World → Prop} (hgd : o.guard = none) (d s : Operand) (t : TypeId)
    (ho : o.op = .call { callee := .builtin .append, args := #[d, s], argTypes := #[t, t] }) (v u : Value) (hd : a.eval d = v) (hs : a.eval s = u) (r : Value) (w' : World)
    (hrun : (Builtin.append_ #[t, t] o.type #[v, u]).run P w = .ok r w') (h : wpList P ops Q rest (a.put o.dst r) w') : wpList P ops Q (o :: rest) a w := by
  refine wpList_plain hgd fun K hK => ?_
  unfold Oper.wp execOp
  simp only [ho, resolve, invoke, builtin, Sem.run_bind, Sem.run_pure, Result.andThen_ok, List.map_toArray, List.map_cons, List.map_nil, hd, hs, hrun]
  exact hK _ _ h
def NewRes (bn pn : Int) (bad : List Int) (evs : List Ev) (w : World) (e : Ending) (w' : World) : Prop :=
  match newChip bn pn bad evs with
  | .error n => e = .returned (.tuple #[.pointer none, .int .i64 n]) ∧ Below w.heap.size w w'
  | .ok st => ∃ c Fm Fr L, e = .returned (.tuple #[.pointer (some ⟨c, 0, none⟩), .int .i64 0]) ∧ ChipR w' Fm Fr c st L ∧ (∀ b, Fm b ∨ Fr b → w.heap.size ≤ b) ∧ Below w.heap.size w w'
theorem newRes_err {bn pn : Int} {bad : List Int} {evs : List Ev} {w w' : World} {n : Int} (h : newChip bn pn bad evs = .error n) (hb : Below w.heap.size w w') : NewRes bn pn bad evs w (.returned (.tuple #[.pointer none, .int .i64 n])) w' := by
  unfold NewRes; rw [h]; exact ⟨rfl, hb⟩
def lay0 : Lay := ⟨0, #[], .slice none 0 0, fun _ => 0, fun _ => 0, fun _ => #[], fun _ _ => 0⟩
theorem newSt_zero {w W : World} {c bn pn : Nat} (hc : Box W c 77 #[.int .i64 bn, .int .i64 pn, .slice none 0 0, .slice none 0 0, .int .i64 0, .bool false]) (hcw : w.heap.size ≤ c) (hb : Below w.heap.size w W) : NewSt w W c bn pn 0 (.slice none 0 0) lay0 where
  chip := hc
  own := World.ownsRow_nil _ _ _ _
  blk x hx := by omega
  prow x hx := by omega
  prowAt x hx := by omega
  byt x hx := by omega
  kinj x hx := by omega
  pinj x hx := by omega
  qinj x hx := by omega
  gec := hcw
  gek x hx := by omega
  gep x hx := by omega
  geq x hx := by omega
  bel := hb
theorem blkSt_zero {B : Nat} {W : World} {kb : Nat} (hk : Box W kb 84 #[.slice none 0 0, .int .i64 0, .int .i64 0, .bool false]) (hB : B ≤ kb) : BlkSt B W kb 0 (.slice none 0 0) (fun _ => 0) where
  box := hk
  own := World.ownsRow_nil _ _ _ _
  byt x hx := by omega
  inj x hx := by omega
  ge := ⟨hB, fun x hx => by omega⟩
/-- What the inner round needs of the call and of the append. -/
theorem inner_push {wr w2 : World} {pa : Option Addr} {pc j : Nat} {qf : Nat → Nat} (hb : BlkSt wr.heap.size w2 wr.heap.size j (.slice pa j pc) qf) (hbl : Below wr.heap.size wr w2) (hj : j < 1000) (w4 : World) (b : Nat) (hbW : w2.drew.heap.size ≤ b) (hbx : Box w4 b 110 (cellsB (rep 288 255))) (hb4 : Below w2.drew.heap.size w2.drew w4) :
    Below w2.heap.size w2 w4 ∧ w4.cell? ⟨wr.heap.size, 0, none⟩ = some (.slice pa j pc) ∧ (w4.alloc (.cells #[.pointer (some ⟨b, 0, none⟩)] 85)).cell? ⟨wr.heap.size, 0, none⟩ = some (.slice pa j pc) ∧ True ∧ True ∧
    ∃ va vn vc w6, (Builtin.append_ #[82, 82] 82 #[.slice pa j pc, .slice (some ⟨w4.heap.size, 0, none⟩) 1 1]).run Try.prog (w4.alloc (.cells #[.pointer (some ⟨b, 0, none⟩)] 85)) = .ok (.slice va vn vc) w6 ∧
      w6.cell? ⟨wr.heap.size, 0, none⟩ = some (.slice pa j pc) ∧ w6.frozen? ⟨wr.heap.size, 0, none⟩ = false ∧
      BlkSt wr.heap.size (w6.setCell ⟨wr.heap.size, 0, none⟩ (.slice va vn vc)) wr.heap.size (j + 1) (.slice va (j + 1) vc) (fun x => if x = j then b else qf x) ∧ Below wr.heap.size wr (w6.setCell ⟨wr.heap.size, 0, none⟩ (.slice va vn vc)) := by
  have hsz := hbl.size
  have h4 : Below w2.heap.size w2 w4 := ⟨hb4.os, hb4.tape, hb4.output, hb4.size, hb4.block⟩
  have hs4 := h4.size
  have hB4 := hb.below h4
  have hal : Below w4.heap.size w4 (w4.alloc (.cells #[.pointer (some ⟨b, 0, none⟩)] 85)) := (Below.refl _ _).alloc (Nat.le_refl _) _
  have hB5 := hB4.below hal
  have hbx5 := hbx.below hal
  have hs5 : (w4.alloc (.cells #[.pointer (some ⟨b, 0, none⟩)] 85)).cell? ⟨w4.heap.size, 0, none⟩ = some (ptr b) := (Box.new w4 85 #[.pointer (some ⟨b, 0, none⟩)]).get 0 _ rfl
  have hbge : w2.heap.size ≤ b := hbW
  obtain ⟨v', w6, hrun, hg, hbl6, hbx6, ⟨va, vc, rfl⟩, hB7⟩ := hB5.push hj (by rw [World.size_alloc]; omega) b w4.heap.size hbx5 (by omega) (fun x hx e => by have := (hb.byt x hx).lt; omega) hs5 82
  refine ⟨h4, hB4.box.get 0 _ rfl, hB5.box.get 0 _ rfl, trivial, trivial, va, j + 1, vc, w6, hrun, hbx6.get 0 _ rfl, hbx6.frozen 0, hB7, ?_⟩
  exact ((((hbl.trans (h4.mono hsz)).alloc (by omega) (.cells #[.pointer (some ⟨b, 0, none⟩)] 85)).trans hbl6)).setCell (p := ⟨wr.heap.size, 0, none⟩) (Nat.le_refl _) _
/-- What the outer round needs of its append. -/
theorem outer_push {w wr w2 : World} {c bn pn k gb : Nat} {ra pa : Option Addr} {rc pc : Nat} {L : Lay} {qf : Nat → Nat} {vs : Array Value} (hS : NewSt w wr c bn pn k (.slice ra k rc) L) (hgb : Box wr gb 23 vs)
    (hb : BlkSt wr.heap.size w2 wr.heap.size pn (.slice pa pn pc) qf) (hbl : Below wr.heap.size wr w2) (hk : k < 1000) (hp : 0 < pn) :
    w2.cell? ⟨c, 2, none⟩ = some (.slice ra k rc) ∧ ∃ va vn vc w6 L', (Builtin.append_ #[75, 75] 75 #[.slice ra k rc, .slice (some ⟨w2.heap.size, 0, none⟩) 1 1]).run Try.prog (w2.alloc (.cells #[.pointer (some ⟨wr.heap.size, 0, none⟩)] 81)) = .ok (.slice va vn vc) w6 ∧
      w6.cell? ⟨c, 2, none⟩ = some (.slice ra k rc) ∧ w6.frozen? ⟨c, 2, none⟩ = false ∧ NewSt w (w6.setCell ⟨c, 2, none⟩ (.slice va vn vc)) c bn pn (k + 1) (.slice va (k + 1) vc) L' ∧ Box (w6.setCell ⟨c, 2, none⟩ (.slice va vn vc)) gb 23 vs := by
  have hS2 := hS.below hbl
  have hg2 := hgb.below hbl
  have hal : Below w2.heap.size w2 (w2.alloc (.cells #[.pointer (some ⟨wr.heap.size, 0, none⟩)] 81)) := (Below.refl _ _).alloc (Nat.le_refl _) _
  have hS3 := hS2.below hal
  have hg3 := hg2.below hal
  have hb3 := hb.below hal
  have hs3 : (w2.alloc (.cells #[.pointer (some ⟨wr.heap.size, 0, none⟩)] 81)).cell? ⟨w2.heap.size, 0, none⟩ = some (ptr wr.heap.size) := (Box.new w2 81 #[.pointer (some ⟨wr.heap.size, 0, none⟩)]).get 0 _ rfl
  obtain ⟨v', w6, L', hrun, hg, hcx, ⟨va, vc, rfl⟩, hN⟩ := hS3.push hb3 hk hp ⟨hS.bel.size, hS.chip.lt, fun x hx => ⟨(hS.blk x hx).lt, (hS.prow x hx).lt, fun j hj => (hS.byt x hx j hj).lt⟩⟩ w2.heap.size hs3 75
  have hg6 := hg3.grown_own hS3.own hg (by decide)
  exact ⟨hS2.chip.get 2 _ rfl, va, k + 1, vc, w6, L', hrun, hcx.get 2 _ rfl, hcx.frozen 2, hN, hg6.far _ _ (hcx.ne hg6 (by decide))⟩
theorem newRes_ok {bn pn : Int} {bad : List Int} {evs : List Ev} {w w' : World} {st : Chip} {c : Nat} {Fm Fr : Nat → Prop} {L : Lay} (h : newChip bn pn bad evs = .ok st) (hC : ChipR w' Fm Fr c st L) (hge : ∀ b, Fm b ∨ Fr b → w.heap.size ≤ b) (hb : Below w.heap.size w w') : NewRes bn pn bad evs w (.returned (.tuple #[.pointer (some ⟨c, 0, none⟩), .int .i64 0])) w' := by
  unfold NewRes; rw [h]; exact ⟨c, Fm, Fr, L, rfl, hC, hge, hb⟩
theorem maskS_of {W5 w6 : World} {B : Nat} {em : List UInt8} {ml : Nat} {ca : Option Addr} {cc : Nat} (hur : RdB w6 (.slice ca ml cc) em) (huo : em ≠ [] → ∃ g cap, (Value.slice ca ml cc) = .slice (some ⟨g, 0, none⟩) em.length cap ∧ W5.heap.size ≤ g ∧ OwnB w6 g cap em) (hB : B ≤ W5.heap.size) : MaskS w6 B (.slice ca ml cc) em := by
  refine ⟨hur, ?_⟩
  by_cases h : em = []
  · exact .inl h
  · obtain ⟨g, cap, h1, h2, h3⟩ := huo h
    exact .inr ⟨g, cap, h1, Nat.le_trans hB h2, h3⟩
/-- What the round needs of the clone, of the load and of the append. -/
theorem ev_push {w4 wr w6 : World} {c : Nat} {st : Chip} {L : Lay} {ps : List (Ev × Value)} {va ma ca : Option Addr} {n vc ml mc cc : Nat} {ea ek : Int} {em : List UInt8} (hE : EvNew w4 wr c st L ps (.slice va n vc)) (hpl : n = ps.length) (hn : n < 10000000) (hml : em.length = ml)
    (hb : Below (wr.alloc (.cells #[.int .i64 ea, .int .i64 ek, .slice ma ml mc] 67)).heap.size (wr.alloc (.cells #[.int .i64 ea, .int .i64 ek, .slice ma ml mc] 67)) w6) (hu : MaskS w6 w4.heap.size (.slice ca ml cc) em) :
    w6.cell? ⟨wr.heap.size, 2, none⟩ = some (.slice ma ml mc) ∧ w6.frozen? ⟨wr.heap.size, 2, none⟩ = false ∧ ∃ w7, w6.setCell ⟨wr.heap.size, 2, none⟩ (.slice ca ml cc) = w7 ∧
      w7.cell? ⟨wr.heap.size, 0, none⟩ = some (.int .i64 ea) ∧ w7.cell? ⟨wr.heap.size, 1, none⟩ = some (.int .i64 ek) ∧ w7.cell? ⟨wr.heap.size, 2, none⟩ = some (.slice ca ml cc) ∧ w7.cell? ⟨c, 3, none⟩ = some (.slice va n vc) ∧
      (w7.alloc (.cells #[.int .i64 ea, .int .i64 ek, .slice ca ml cc] 67)).cell? ⟨c, 3, none⟩ = some (.slice va n vc) ∧
      ∃ va' vn vc' w9, (Builtin.append_ #[25, 25] 25 #[.slice va n vc, .slice (some ⟨w7.drew.heap.size, 0, none⟩) 1 1]).run Try.prog (w7.drew.alloc (.cells #[.int .i64 ea, .int .i64 ek, .slice ca ml cc] 67)) = .ok (.slice va' vn vc') w9 ∧
        w9.cell? ⟨c, 3, none⟩ = some (.slice va n vc) ∧ w9.frozen? ⟨c, 3, none⟩ = false ∧ EvNew w4 (w9.setCell ⟨c, 3, none⟩ (.slice va' vn vc')) c st L (ps ++ [(⟨ea, ek, em⟩, .slice ca ml cc)]) (.slice va' (n + 1) vc') := by
  subst hpl
  have bx := (Box.new wr 67 #[.int .i64 ea, .int .i64 ek, .slice ma ml mc]).below hb
  have hal : Below wr.heap.size wr (wr.alloc (.cells #[.int .i64 ea, .int .i64 ek, .slice ma ml mc] 67)) := (Below.refl _ _).alloc (Nat.le_refl _) _
  have h6 : Below wr.heap.size wr w6 := hal.trans (hb.mono hal.size)
  have bx7 := bx.set 2 (.slice ca ml cc)
  have h7 : Below wr.heap.size wr (w6.setCell ⟨wr.heap.size, 2, none⟩ (.slice ca ml cc)) := h6.setCell (p := ⟨wr.heap.size, 2, none⟩) (Nat.le_refl _) _
  have hu7 : MaskS (w6.setCell ⟨wr.heap.size, 2, none⟩ (.slice ca ml cc)) w4.heap.size (.slice ca ml cc) em := hu.heap fun g cap _ ho => Below.heap_setCell w6 ⟨wr.heap.size, 2, none⟩ _ g (Ne.symm (ho.tag bx (by decide)))
  refine ⟨bx.get 2 _ rfl, bx.frozen 2, _, rfl, bx7.get 0 _ rfl, bx7.get 1 _ rfl, bx7.get 2 _ rfl, (hE.below h7).chip.get 3 _ rfl, ?_⟩
  obtain ⟨w7, hw7⟩ : ∃ w7, w6.setCell ⟨wr.heap.size, 2, none⟩ (.slice ca ml cc) = w7 := ⟨_, rfl⟩
  rw [hw7] at bx7 h7 hu7 ⊢
  have hd : Below w7.heap.size w7 (w7.drew.alloc (.cells #[.int .i64 ea, .int .i64 ek, .slice ca ml cc] 67)) := ((Below.refl w7.heap.size w7).drew).alloc (Nat.le_refl _) _
  have h8 := h7.trans (hd.mono h7.size)
  have hE8 := hE.below h8
  have hu8 := hu7.heap (W' := w7.drew.alloc (.cells #[.int .i64 ea, .int .i64 ek, .slice ca ml cc] 67)) fun g cap _ ho => hd.block g ho.lt
  have bn := Box.new w7.drew 67 #[.int .i64 ea, .int .i64 ek, .slice ca ml cc]
  refine ⟨(show (w7.drew.alloc (.cells #[.int .i64 ea, .int .i64 ek, .slice ca ml cc] 67)).cell? ⟨c, 3, none⟩ = _ from hE8.chip.get 3 _ rfl), ?_⟩
  obtain ⟨v', w9, hrun, hcx, ⟨va', vc', rfl⟩, hN⟩ := hE8.push hn w7.drew.heap.size ⟨ea, ek, em⟩ _ hu8 (bn.get 0 _ rfl) (bn.get 1 _ rfl) (bn.get 2 _ rfl) 25
  exact ⟨va', _, vc', w9, hrun, hcx.get 3 _ rfl, hcx.frozen 3, hN⟩
theorem evNew_zero {w : World} {Fm Fr : Nat → Prop} {c : Nat} {st : Chip} {L : Lay} (hC : ChipR w Fm Fr c st L) (he : L.ev = .slice none 0 0) : EvNew w w c st L [] (.slice none 0 0) where
  chip := by
    have h := hC.chip
    unfold chipA at h ⊢
    rw [he] at h
    exact h
  own := World.ownsRow_nil _ _ _ _
  masks p hp := by cases hp
  grown := ⟨rfl, rfl, rfl, Nat.le_refl _, fun _ _ _ => rfl⟩
set_option maxRecDepth 100000 in
set_option maxHeartbeats 8000000 in
theorem new_any (bn pn : Int) (bad : List Int) (evs : List Ev) (bv ev : Value) (w : World) (hbl : bad.length ≤ 9223372036854775807) (hel : evs.length ≤ 1048576) (hbad : IntS w w.heap.size bv bad) (hev : EvS w (fun b => b < w.heap.size) ev evs) :
    Calls Try.prog 10 #[.agg #[.int .i64 bn, .int .i64 pn], bv, ev] w (NewRes bn pn bad evs w) := by
  obtain ⟨ba, bc, rfl⟩ : ∃ a c, bv = .slice a bad.length c := by obtain ⟨a, c, h, _⟩ := hbad; exact ⟨a, c, h⟩
  obtain ⟨ea, ec, rfl⟩ := hev.len
  have hB0 := Lib.hid ((Below.refl w.heap.size w).alloc (Nat.le_refl _) (.cells #[.int .i64 bn, .int .i64 pn] 23))
  have bx0 := Box.new w 23 #[.int .i64 bn, .int .i64 pn]
  obtain ⟨bl, hbl'⟩ : ∃ bl, bad.length = bl := ⟨_, rfl⟩
  obtain ⟨el, hel'⟩ : ∃ el, evs.length = el := ⟨_, rfl⟩
  rw [hbl'] at hbl hbad ⊢
  rw [hel'] at hel hev ⊢
  replace hbl' := Lib.hid hbl'
  replace hel' := Lib.hid hel'
  replace hbad := Lib.hid hbad
  replace hev := Lib.hid hev
  by_cases hg : geoOk bn pn
  case neg =>
    have hR := Lib.hid (fun w' => newRes_err (w := w) (w' := w') (show newChip bn pn bad evs = .error 20 from if_neg hg))
    by_cases a1 : bn < 16
    · go_enter Try.func10, Try.ntmps10
      go_wp2_with fail
      go_ret2
      exact hR.out _ hB0.out
    by_cases a2 : bn > 256
    · go_enter Try.func10, Try.ntmps10
      go_wp2_with fail
      go_ret2
      exact hR.out _ hB0.out
    by_cases a3 : pn < 4
    · go_enter Try.func10, Try.ntmps10
      go_wp2_with fail
      go_ret2
      exact hR.out _ hB0.out
    by_cases a4 : pn > 32
    · go_enter Try.func10, Try.ntmps10
      go_wp2_with fail
      go_ret2
      exact hR.out _ hB0.out
    have a5 : bn > 16 * pn := by
      refine Classical.byContradiction fun h => hg ⟨a1, a2, a3, a4, h⟩
    have hw : IntKind.i64.wrap (16 * pn) = 16 * pn := by rw [IntKind.wrap_i64]; omega
    clear hg
    go_enter Try.func10, Try.ntmps10
    go_wp2_with fail
    go_ret2
    exact hR.out _ hB0.out
  have hok := Lib.hid hg
  obtain ⟨a1, a2, a3, a4, a5⟩ := hg
  obtain ⟨bN, rfl⟩ := Int.eq_ofNat_of_zero_le (show 0 ≤ bn by omega)
  obtain ⟨pN, rfl⟩ := Int.eq_ofNat_of_zero_le (show 0 ≤ pn by omega)
  have hw : IntKind.i64.wrap (16 * (pN : Int)) = 16 * (pN : Int) := by rw [IntKind.wrap_i64]; omega
  have bx1 := Box.new (w.alloc (.cells #[.int .i64 bN, .int .i64 pN] 23)) 77 #[.int .i64 bN, .int .i64 pN, .slice none 0 0, .slice none 0 0, .int .i64 0, .bool false]
  have bx0' := Lib.hid (bx0.alloc (.cells #[.int .i64 bN, .int .i64 pN, .slice none 0 0, .slice none 0 0, .int .i64 0, .bool false] 77))
  have hB1 := hB0.out.alloc (by rw [World.size_alloc]; omega) (.cells #[.int .i64 bN, .int .i64 pN, .slice none 0 0, .slice none 0 0, .int .i64 0, .bool false] 77)
  rw [World.size_alloc] at bx1
  have hS0 := Lib.hid (newSt_zero (w := w) bx1 (by omega) hB1)
  clear bx1 hB1
  go_enter Try.func10, Try.ntmps10
  go_wp2_with fail
  clear bx0 hB0 hw
  obtain ⟨Wn, hWn⟩ : ∃ Wn, (w.alloc (.cells #[.int .i64 bN, .int .i64 pN] 23)).alloc (.cells #[.int .i64 bN, .int .i64 pN, .slice none 0 0, .slice none 0 0, .int .i64 0, .bool false] 77) = Wn := ⟨_, rfl⟩
  rw [hWn] at hS0 bx0' ⊢
  clear hWn
  go_loopw [45] (fun i wr => ∃ (k : Nat) (ra : Option Addr) (rc : Nat) (L : Lay), k ≤ bN ∧ i = .int .i64 k ∧ NewSt w wr (w.heap.size + 1) bN pN k (.slice ra k rc) L ∧ Box wr w.heap.size 23 #[.int .i64 bN, .int .i64 pN]) (fun i _ => bN - (intOf i).toNat)
  case atStart => exact ⟨0, none, 0, lay0, by omega, rfl, hS0.out, bx0'.out⟩
  case round =>
    clear hS0 bx0'
    obtain ⟨k, ra, rc, L, hk, rfl, hS, hgb⟩ := hrel
    by_cases hlt : k < bN
    · have gb1 := (hgb.alloc (.cells #[.slice none 0 0, .int .i64 0, .int .i64 0, .bool false] 84)).get 1 _ rfl
      have hK0 := Lib.hid (blkSt_zero (B := wr.heap.size) (Box.new wr 84 #[.slice none 0 0, .int .i64 0, .int .i64 0, .bool false]) (Nat.le_refl _))
      have hbe0 := Lib.hid ((Below.refl wr.heap.size wr).alloc (Nat.le_refl _) (.cells #[.slice none 0 0, .int .i64 0, .int .i64 0, .bool false] 84))
      replace hS := Lib.hid hS
      replace hgb := Lib.hid hgb
      obtain ⟨W1, hW1⟩ : ∃ W1, wr.alloc (.cells #[.slice none 0 0, .int .i64 0, .int .i64 0, .bool false] 84) = W1 := ⟨_, rfl⟩
      rw [hW1] at gb1 hK0 hbe0
      go_wp2_with fail
      clear hW1 gb1
      go_loopw [51] (fun i w2 => ∃ (j : Nat) (pa : Option Addr) (pc : Nat) (qf : Nat → Nat), j ≤ pN ∧ i = .int .i64 j ∧ BlkSt wr.heap.size w2 wr.heap.size j (.slice pa j pc) qf ∧ Below wr.heap.size wr w2) (fun i _ => pN - (intOf i).toNat)
      case atStart => exact ⟨0, none, 0, _, by omega, rfl, hK0.out, hbe0.out⟩
      case round =>
        clear hK0 hbe0
        obtain ⟨j, pa, pc, qf, hj, rfl, hK, hbe⟩ := hrel
        by_cases hjl : j < pN
        · have hpush := Lib.hid (inner_push hK hbe (by omega))
          have k0 := hK.box.get 0 _ rfl
          clear hK hbe
          go_wp2_with fail
          refine wp_region_noPanic ?_
          refine wp_region_held_drew (S := fun _ => True) (by kernel_rfl) (trivial) (fun hHeld => ?_)
          refine wpAnyH_take (i := 0) (v := ?_) rfl (by kernel_rfl) (by kernel_rfl) (by kernel_rfl) (fun _ _ _ h => h) (Or.inl ⟨rfl, ?_⟩) (by assumption) ?_
          rotate_left
          · intro W hSw
            (try dsimp only at hSw)
            go_simp
            try with_reducible rfl
          try simp only [List.getElem_toArray, List.getElem_cons_zero, List.getElem_cons_succ, Act.put, List.setIfInBounds_toArray, List.set_cons_zero, List.set_cons_succ]
          refine wpAnyH_take (i := 1) (v := ?_) rfl (by kernel_rfl) (by kernel_rfl) (by kernel_rfl) (fun _ _ _ h => h) (Or.inl ⟨rfl, ?_⟩) (by assumption) ?_
          rotate_left
          · intro W hSw
            (try dsimp only at hSw)
            go_simp
            try with_reducible rfl
          try simp only [List.getElem_toArray, List.getElem_cons_zero, List.getElem_cons_succ, Act.put, List.setIfInBounds_toArray, List.set_cons_zero, List.set_cons_succ]
          refine wpAnyH_take (i := 2) (v := ?_) rfl (by kernel_rfl) (by kernel_rfl) (by kernel_rfl) (fun _ _ _ h => h) (Or.inl ⟨rfl, ?_⟩) (by assumption) ?_
          rotate_left
          · intro W hSw
            (try dsimp only at hSw)
            go_simp
            try with_reducible rfl
          try simp only [List.getElem_toArray, List.getElem_cons_zero, List.getElem_cons_succ, Act.put, List.setIfInBounds_toArray, List.set_cons_zero, List.set_cons_succ]
          refine wpAnyH_take (i := 3) (v := ?_) rfl (by kernel_rfl) (by kernel_rfl) (by kernel_rfl) (fun _ _ _ h => h) (Or.inl ⟨rfl, ?_⟩) (by assumption) ?_
          rotate_left
          · intro W hSw
            (try dsimp only at hSw)
            go_simp
            try with_reducible rfl
          try simp only [List.getElem_toArray, List.getElem_cons_zero, List.getElem_cons_succ, Act.put, List.setIfInBounds_toArray, List.set_cons_zero, List.set_cons_succ]
          refine wpAnyH_ready (rs := [4, 5]) (by kernel_rfl) (by simp) (AllReadyH.cons rfl (fun K hK => ?_) (AllReadyH.cons rfl (fun K hK => ?_) AllReadyH.nil))
          · go_simp
            refine hK.out _ _ trivial (fun hHeld => ?_)
            clear hK
            try simp only [List.getElem_toArray, List.getElem_cons_zero, List.getElem_cons_succ, Act.put, List.setIfInBounds_toArray, List.set_cons_zero, List.set_cons_succ]
            refine wpAnyH_ready (rs := [5]) (by kernel_rfl) (by simp) (AllReadyH.cons rfl (fun K hK => ?_) AllReadyH.nil)
            go_simp
            refine (erased_any _).mono ?_
            rintro e w4 ⟨b, rfl, hbW, hbx, hb4⟩
            obtain ⟨hB4, k4, k5, hs5, hbe5, vp, wp, cp, w6, hrun, x6, xf6, hBl, hbe7⟩ := hpush.out w4 b hbW hbx hb4
            replace hs5 := Lib.hid hs5
            replace hbe5 := Lib.hid hbe5
            replace hbe7 := Lib.hid hbe7
            replace hBl := Lib.hid hBl
            replace hrun := Lib.hid hrun
            refine hK.out _ _ trivial (fun hHeld => ?_)
            clear hK
            try simp only [List.getElem_toArray, List.getElem_cons_zero, List.getElem_cons_succ, Act.put, List.setIfInBounds_toArray, List.set_cons_zero, List.set_cons_succ]
            refine wpAnyH_ready (rs := [6]) (by kernel_rfl) (by simp) (AllReadyH.cons rfl (fun K hK => ?_) AllReadyH.nil)
            go_simp
            refine hK.out _ _ trivial (fun hHeld => ?_)
            clear hK
            try simp only [List.getElem_toArray, List.getElem_cons_zero, List.getElem_cons_succ, Act.put, List.setIfInBounds_toArray, List.set_cons_zero, List.set_cons_succ]
            refine wpAnyH_ready (rs := [7]) (by kernel_rfl) (by simp) (AllReadyH.cons rfl (fun K hK => ?_) AllReadyH.nil)
            refine step_append_run rfl (.tmp 57) (.tmp 59) 82 82 rfl _ _ rfl rfl _ _ hrun.out ?_
            refine hK.out _ _ trivial (fun hHeld => ?_)
            clear hK
            try simp only [List.getElem_toArray, List.getElem_cons_zero, List.getElem_cons_succ, Act.put, List.setIfInBounds_toArray, List.set_cons_zero, List.set_cons_succ]
            refine wpAnyH_take (i := 8) (v := ?_) rfl (by kernel_rfl) (by kernel_rfl) (by kernel_rfl) (fun _ _ _ h => h) (Or.inl ⟨rfl, ?_⟩) (by assumption) ?_
            rotate_left
            · intro W hSw
              (try dsimp only at hSw)
              go_simp
              try with_reducible rfl
            try simp only [List.getElem_toArray, List.getElem_cons_zero, List.getElem_cons_succ, Act.put, List.setIfInBounds_toArray, List.set_cons_zero, List.set_cons_succ]
            refine wpAnyH_take (i := 9) (v := ?_) rfl (by kernel_rfl) (by kernel_rfl) (by kernel_rfl) (fun _ _ _ h => h) (Or.inl ⟨rfl, ?_⟩) (by assumption) ?_
            rotate_left
            · intro W hSw
              (try dsimp only at hSw)
              go_simp
              try with_reducible rfl
            try simp only [List.getElem_toArray, List.getElem_cons_zero, List.getElem_cons_succ, Act.put, List.setIfInBounds_toArray, List.set_cons_zero, List.set_cons_succ]
            refine wpAnyH_ready (rs := [10]) (by kernel_rfl) (by simp) (AllReadyH.cons rfl (fun K hK => ?_) AllReadyH.nil)
            go_simp
            refine hK.out _ _ trivial (fun hHeld => ?_)
            clear hK
            try simp only [List.getElem_toArray, List.getElem_cons_zero, List.getElem_cons_succ, Act.put, List.setIfInBounds_toArray, List.set_cons_zero, List.set_cons_succ]
            refine wpAnyH_done (by kernel_rfl) ?_ _
            (try dsimp only [NoPanic])
            go_wp2_with fail
            go_roundw
            case rel => exact ⟨j + 1, _, _, _, by omega, by go_num, hBl.out, hbe7.out⟩
            case measure => simp [intOf]; omega
          · go_simp
            refine (erased_any _).mono ?_
            rintro e w4 ⟨b, rfl, hbW, hbx, hb4⟩
            obtain ⟨hB4, k4, k5, hs5, hbe5, vp, wp, cp, w6, hrun, x6, xf6, hBl, hbe7⟩ := hpush.out w4 b hbW hbx hb4
            replace hs5 := Lib.hid hs5
            replace hbe5 := Lib.hid hbe5
            replace hbe7 := Lib.hid hbe7
            replace hBl := Lib.hid hBl
            replace hrun := Lib.hid hrun
            refine hK.out _ _ trivial (fun hHeld => ?_)
            clear hK
            try simp only [List.getElem_toArray, List.getElem_cons_zero, List.getElem_cons_succ, Act.put, List.setIfInBounds_toArray, List.set_cons_zero, List.set_cons_succ]
            refine wpAnyH_ready (rs := [4, 6]) (by kernel_rfl) (by simp) (AllReadyH.cons rfl (fun K hK => ?_) (AllReadyH.cons rfl (fun K hK => ?_) AllReadyH.nil))
            · go_simp
              refine hK.out _ _ trivial (fun hHeld => ?_)
              clear hK
              try simp only [List.getElem_toArray, List.getElem_cons_zero, List.getElem_cons_succ, Act.put, List.setIfInBounds_toArray, List.set_cons_zero, List.set_cons_succ]
              refine wpAnyH_ready (rs := [6]) (by kernel_rfl) (by simp) (AllReadyH.cons rfl (fun K hK => ?_) AllReadyH.nil)
              go_simp
              refine hK.out _ _ trivial (fun hHeld => ?_)
              clear hK
              try simp only [List.getElem_toArray, List.getElem_cons_zero, List.getElem_cons_succ, Act.put, List.setIfInBounds_toArray, List.set_cons_zero, List.set_cons_succ]
              refine wpAnyH_ready (rs := [7]) (by kernel_rfl) (by simp) (AllReadyH.cons rfl (fun K hK => ?_) AllReadyH.nil)
              refine step_append_run rfl (.tmp 57) (.tmp 59) 82 82 rfl _ _ rfl rfl _ _ hrun.out ?_
              refine hK.out _ _ trivial (fun hHeld => ?_)
              clear hK
              try simp only [List.getElem_toArray, List.getElem_cons_zero, List.getElem_cons_succ, Act.put, List.setIfInBounds_toArray, List.set_cons_zero, List.set_cons_succ]
              refine wpAnyH_take (i := 8) (v := ?_) rfl (by kernel_rfl) (by kernel_rfl) (by kernel_rfl) (fun _ _ _ h => h) (Or.inl ⟨rfl, ?_⟩) (by assumption) ?_
              rotate_left
              · intro W hSw
                (try dsimp only at hSw)
                go_simp
                try with_reducible rfl
              try simp only [List.getElem_toArray, List.getElem_cons_zero, List.getElem_cons_succ, Act.put, List.setIfInBounds_toArray, List.set_cons_zero, List.set_cons_succ]
              refine wpAnyH_take (i := 9) (v := ?_) rfl (by kernel_rfl) (by kernel_rfl) (by kernel_rfl) (fun _ _ _ h => h) (Or.inl ⟨rfl, ?_⟩) (by assumption) ?_
              rotate_left
              · intro W hSw
                (try dsimp only at hSw)
                go_simp
                try with_reducible rfl
              try simp only [List.getElem_toArray, List.getElem_cons_zero, List.getElem_cons_succ, Act.put, List.setIfInBounds_toArray, List.set_cons_zero, List.set_cons_succ]
              refine wpAnyH_ready (rs := [10]) (by kernel_rfl) (by simp) (AllReadyH.cons rfl (fun K hK => ?_) AllReadyH.nil)
              go_simp
              refine hK.out _ _ trivial (fun hHeld => ?_)
              clear hK
              try simp only [List.getElem_toArray, List.getElem_cons_zero, List.getElem_cons_succ, Act.put, List.setIfInBounds_toArray, List.set_cons_zero, List.set_cons_succ]
              refine wpAnyH_done (by kernel_rfl) ?_ _
              (try dsimp only [NoPanic])
              go_wp2_with fail
              go_roundw
              case rel => exact ⟨j + 1, _, _, _, by omega, by go_num, hBl.out, hbe7.out⟩
              case measure => simp [intOf]; omega
            · go_simp
              refine hK.out _ _ trivial (fun hHeld => ?_)
              clear hK
              try simp only [List.getElem_toArray, List.getElem_cons_zero, List.getElem_cons_succ, Act.put, List.setIfInBounds_toArray, List.set_cons_zero, List.set_cons_succ]
              refine wpAnyH_ready (rs := [4]) (by kernel_rfl) (by simp) (AllReadyH.cons rfl (fun K hK => ?_) AllReadyH.nil)
              go_simp
              refine hK.out _ _ trivial (fun hHeld => ?_)
              clear hK
              try simp only [List.getElem_toArray, List.getElem_cons_zero, List.getElem_cons_succ, Act.put, List.setIfInBounds_toArray, List.set_cons_zero, List.set_cons_succ]
              refine wpAnyH_ready (rs := [7]) (by kernel_rfl) (by simp) (AllReadyH.cons rfl (fun K hK => ?_) AllReadyH.nil)
              refine step_append_run rfl (.tmp 57) (.tmp 59) 82 82 rfl _ _ rfl rfl _ _ hrun.out ?_
              refine hK.out _ _ trivial (fun hHeld => ?_)
              clear hK
              try simp only [List.getElem_toArray, List.getElem_cons_zero, List.getElem_cons_succ, Act.put, List.setIfInBounds_toArray, List.set_cons_zero, List.set_cons_succ]
              refine wpAnyH_take (i := 8) (v := ?_) rfl (by kernel_rfl) (by kernel_rfl) (by kernel_rfl) (fun _ _ _ h => h) (Or.inl ⟨rfl, ?_⟩) (by assumption) ?_
              rotate_left
              · intro W hSw
                (try dsimp only at hSw)
                go_simp
                try with_reducible rfl
              try simp only [List.getElem_toArray, List.getElem_cons_zero, List.getElem_cons_succ, Act.put, List.setIfInBounds_toArray, List.set_cons_zero, List.set_cons_succ]
              refine wpAnyH_take (i := 9) (v := ?_) rfl (by kernel_rfl) (by kernel_rfl) (by kernel_rfl) (fun _ _ _ h => h) (Or.inl ⟨rfl, ?_⟩) (by assumption) ?_
              rotate_left
              · intro W hSw
                (try dsimp only at hSw)
                go_simp
                try with_reducible rfl
              try simp only [List.getElem_toArray, List.getElem_cons_zero, List.getElem_cons_succ, Act.put, List.setIfInBounds_toArray, List.set_cons_zero, List.set_cons_succ]
              refine wpAnyH_ready (rs := [10]) (by kernel_rfl) (by simp) (AllReadyH.cons rfl (fun K hK => ?_) AllReadyH.nil)
              go_simp
              refine hK.out _ _ trivial (fun hHeld => ?_)
              clear hK
              try simp only [List.getElem_toArray, List.getElem_cons_zero, List.getElem_cons_succ, Act.put, List.setIfInBounds_toArray, List.set_cons_zero, List.set_cons_succ]
              refine wpAnyH_done (by kernel_rfl) ?_ _
              (try dsimp only [NoPanic])
              go_wp2_with fail
              go_roundw
              case rel => exact ⟨j + 1, _, _, _, by omega, by go_num, hBl.out, hbe7.out⟩
              case measure => simp [intOf]; omega
        · obtain rfl : j = pN := by omega
          obtain ⟨c2, va, vn, vc, w6, L', hrun, x2, f2, hN, hG⟩ := outer_push hS.out hgb.out hK hbe (by omega) (by omega)
          clear hK hbe hS hgb
          replace hN := Lib.hid hN
          replace hG := Lib.hid hG
          replace hrun := Lib.hid hrun
          go_wp2_with (at_builtin; refine wpList_append_run rfl _ _ 75 rfl _ _ rfl rfl _ _ hrun.out ?_)
          go_roundw
          case rel => exact ⟨k + 1, _, _, _, by omega, by go_num, hN.out, hG.out⟩
          case measure => simp [intOf]; omega
    · obtain rfl : k = bN := by omega
      rename World => Wa
      obtain ⟨L', hC, hge, hev0⟩ := hS.chipR ⟨by omega, by omega, by omega, by omega⟩
      have hbw := Lib.hid hS.bel
      obtain ⟨Fm, hFm⟩ : ∃ F, mutOf (w.heap.size + 1) k pN L' = F := ⟨_, rfl⟩
      rw [hFm] at hC hge
      have hgeo : geoOk (k : Int) (pN : Int) := hok.out
      replace hC := Lib.hid hC
      replace hge := Lib.hid hge
      replace hev0 := Lib.hid hev0
      clear hS hgb hFm
      have hnew : ∀ r, markBad k (fun _ => false) bad = r → newChip (k : Int) (pN : Int) bad evs = match (motive := Option (Nat → Bool) → Except Int Chip) r with | none => .error 22 | some f => if mayFrom 0 evs = true then .ok (freshChip k pN evs f) else .error 21 := by
        rintro r rfl
        unfold newChip
        rw [if_pos hgeo]
        rfl
      replace hnew := Lib.hid hnew
      clear hgeo
      go_wp2_with fail
      go_loopw [77] (fun i w3 => ∃ (m : Nat) (f : Nat → Bool), m ≤ bl ∧ i = .int .i64 m ∧ markBad k (fun _ => false) bad = markBad k f (bad.drop m) ∧ ChipR w3 Fm (fun b => w.heap.size ≤ b ∧ b < Wa.heap.size ∧ ¬ Fm b) (w.heap.size + 1) (freshChip k pN [] f) L' ∧ Below w.heap.size w w3) (fun i _ => bl - (intOf i).toNat)
      case atStart => exact ⟨0, _, by omega, rfl, by rw [List.drop_zero], hC.out, hbw.out⟩
      case round =>
        clear hC hbw
        obtain ⟨m, f, hm, rfl, hmk, hC, hbw⟩ := hrel
        by_cases hml : m < bl
        · have hml' : m < bad.length := by rw [hbl'.out]; exact hml
          obtain ⟨bb, bo, bcap, hbv, _, _, hcell⟩ := (hbad.out.below hbw).at (by intro e; rw [e] at hml'; simp at hml')
          rw [hbl'.out] at hbv
          cases hbv
          have d0 := hcell m hml'
          rw [List.drop_eq_getElem_cons hml'] at hmk
          obtain ⟨nv, hnv⟩ : ∃ nv, bad[m] = nv := ⟨_, rfl⟩
          rw [hnv] at d0 hmk
          clear hcell hnv hml'
          have ht := there_any hC nv
          have c2 : wr.cell? ⟨w.heap.size + 1, 2, none⟩ = some (.slice (some ⟨L'.ba, 0, none⟩) k L'.barr.size) := hC.c2
          have hI0 : (0 : Int) ≤ (m : Int) := by omega
          have hI1 : (m : Int) < (bl : Int) := by omega
          rcases hth : (freshChip k pN [] f).there nv with _ | _
          · have hno := Lib.hid (hnew.out _ (hmk.trans (markBad_no (fun h => by have := Chip.there_yes (st := freshChip k pN [] f) h.1 h.2.1; rw [hth] at this; cases this))))
            rw [hth] at ht
            replace ht := Lib.hid ht
            replace hbw := Lib.hid hbw
            clear hmk hth hC
            go_wp2_with (go_at_call 31; (with_reducible refine ht.out.mono ?_); rintro e w' ⟨rfl, hw⟩; obtain rfl := hw.symm)
            go_ret2
            exact newRes_err hno.out hbw.out
          · obtain ⟨x, rfl, hx⟩ := Chip.there_nat hth
            have hx' : x < k := hx
            rw [hth] at ht
            have r0 := hC.r hx
            have b3 : wr.cell? ⟨L'.k x, 3, none⟩ = some (.bool (f x)) := hC.b3 hx
            have bf3 := (hC.blk x hx).frozen 3
            have hset := hC.set_bad hx true
            rw [fresh_mark] at hset
            have hge' := hge.out _ (hC.fk x hx)
            have hbs := hbw.setCell (p := ⟨L'.k x, 3, none⟩) hge' (.bool true)
            have hI3 : (x : Int) < (k : Int) := by omega
            have hI2 : (0 : Int) ≤ (x : Int) := by omega
            replace ht := Lib.hid ht
            replace hset := Lib.hid hset
            replace hbs := Lib.hid hbs
            replace hbw := Lib.hid hbw
            rcases hfx : f x with _ | _
            · rw [hfx] at b3
              rw [markBad_yes ⟨hI2, hI3, by simpa using hfx⟩] at hmk
              rw [show (x : Int).toNat = x by simp] at hmk
              replace hmk := Lib.hid hmk
              clear hth hC hfx
              go_wp2_with (go_at_call 31; (with_reducible refine ht.out.mono ?_); rintro e w' ⟨rfl, hw⟩; obtain rfl := hw.symm)
              go_roundw
              case rel => exact ⟨m + 1, _, by omega, by go_num, hmk.out, hset.out, hbs.out⟩
              case measure => simp [intOf]; omega
            · rw [hfx] at b3
              have hno := Lib.hid (hnew.out _ (hmk.trans (markBad_no (fun h => by have := h.2.2; simp at this; rw [hfx] at this; cases this))))
              clear hmk hth hC hfx
              go_wp2_with (go_at_call 31; (with_reducible refine ht.out.mono ?_); rintro e w' ⟨rfl, hw⟩; obtain rfl := hw.symm)
              go_ret2
              exact newRes_err hno.out hbw.out
        · obtain rfl : m = bl := by omega
          rename World => Wc
          have hfin : markBad k (fun _ => false) bad = some f := by rw [hmk, List.drop_eq_nil_of_le (by rw [hbl'.out]; omega)]; rfl
          have hn := hnew.out _ hfin
          clear hfin hmk
          have hmay := Lib.hid (may_any evs _ Wc w.heap.size hbw.size (by rw [hel'.out]; omega) (hev.out.same ⟨fun b hb => hbw.block b hb, hbw.size⟩))
          rcases hmv : mayFrom 0 evs with _ | _
          · have hno := Lib.hid (hn.trans (if_neg (by rw [hmv]; decide)))
            rw [hmv] at hmay
            replace hbw := Lib.hid hbw
            clear hn hmv hC
            go_wp2_with (go_at_call 32; (with_reducible refine hmay.out.mono ?_); rintro e w4 ⟨rfl, hb4⟩; replace hb4 := Lib.hid hb4)
            go_ret2
            exact newRes_err hno.out (hbw.out.trans (hb4.out.mono hbw.out.size))
          · have hyes := Lib.hid (hn.trans (if_pos hmv))
            have hmk := Lib.hid (mayFrom_mask hmv)
            rw [hmv] at hmay
            have hbr : ∀ W4, Below Wc.heap.size Wc W4 → ChipR W4 Fm (fun b => w.heap.size ≤ b ∧ b < Wa.heap.size ∧ ¬ Fm b) (w.heap.size + 1) (freshChip k pN [] f) L' ∧ Below w.heap.size w W4 := fun W4 h4 => ⟨hC.below h4, hbw.trans (h4.mono hbw.size)⟩
            replace hbr := Lib.hid hbr
            clear hn hmv hC hbw
            go_wp2_with (go_at_call 32; (with_reducible refine hmay.out.mono ?_); rintro e w4 ⟨rfl, hb4⟩; obtain ⟨hC4, hbw4⟩ := hbr.out _ hb4; replace hC4 := Lib.hid hC4; replace hbw4 := Lib.hid hbw4; replace hb4 := Lib.hid hb4)
            clear hbr hmay hb4
            go_loopw [114] (fun i wr => ∃ (m : Nat) (ps : List (Ev × Value)) (va : Option Addr) (vc : Nat), m ≤ el ∧ i = .int .i64 m ∧ ps.length = m ∧ ps.map Prod.fst = evs.take m ∧ EvNew w4 wr (w.heap.size + 1) (freshChip k pN [] f) L' ps (.slice va m vc)) (fun i _ => el - (intOf i).toNat)
            case atStart => exact ⟨0, [], none, 0, by omega, rfl, rfl, rfl, evNew_zero hC4.out hev0.out⟩
            case round =>
              obtain ⟨n, ps, va, vc, hnl, rfl, hpl, hpm, hE⟩ := hrel
              have hsame : Same (fun b => b < w.heap.size) w wr := ⟨fun b hb => (hE.grown.block b (Nat.lt_of_lt_of_le hb hbw4.out.size) (fun e => by cases e; omega)).trans (hbw4.out.block b hb), Nat.le_trans hbw4.out.size hE.grown.size⟩
              by_cases hlt : n < el
              · have hlt' : n < evs.length := by rw [hel'.out]; exact hlt
                obtain ⟨bb, o, cc, hv, _, _, hbR, hcell⟩ := (hev.out.same hsame).at (by intro e; rw [e] at hlt'; simp at hlt')
                rw [hel'.out] at hv
                cases hv
                obtain ⟨mv, c0, c1, c2, hmv⟩ := hcell n hlt'
                obtain ⟨q, hq⟩ : ∃ q, evs[n] = q := ⟨_, rfl⟩
                rw [hq] at c0 c1 hmv
                have hml := hmk.out q (by rw [← hq]; exact List.getElem_mem _)
                have htk : (ps ++ [(q, mv)]).map Prod.fst = evs.take (n + 1) := by rw [List.map_append, hpm, List.take_succ_eq_append_getElem hlt', hq]; rfl
                have hme0 := hmv wr (Same.refl _ _)
                obtain ⟨ma, mc, hme⟩ := hme0.len
                subst hme
                clear hcell hq
                obtain ⟨ea', ek, em⟩ := q
                dsimp only at c0 c1 c2 hml hmv
                obtain ⟨ml, hml'⟩ : ∃ ml, em.length = ml := ⟨_, rfl⟩
                rw [hml'] at c2 hml
                have hmv' : ∀ W', Same (fun b => b < w.heap.size) wr W' → RdB W' (.slice ma ml mc) em := fun W' h => by rw [← hml']; exact hmv W' h
                replace hml' := Lib.hid hml'
                have hI0 : (0 : Int) ≤ (n : Int) := by omega
                have hI1 : (n : Int) < (el : Int) := by omega
                have bx := Box.new wr 67 #[.int .i64 ea', .int .i64 ek, .slice ma ml mc]
                have x2 := bx.get 2 _ rfl
                have hal : Below wr.heap.size wr (wr.alloc (.cells #[.int .i64 ea', .int .i64 ek, .slice ma ml mc] 67)) := (Below.refl _ _).alloc (Nat.le_refl _) _
                have hcl := Lib.hid (clone_any em _ _ (hmv' _ ⟨fun b hb => hal.block b (Nat.lt_of_lt_of_le hb hsame.2), hal.size⟩) (by rw [hml'.out]; omega))
                have hpush := Lib.hid (fun w6 ca cc hb hu => ev_push (ml := ml) (ca := ca) (cc := cc) (ea := ea') (ek := ek) (ma := ma) (mc := mc) (w6 := w6) hE (by omega) (by omega) hml'.out hb hu)
                have hpl1 : ∀ x : Ev × Value, (ps ++ [x]).length = n + 1 := fun x => by rw [List.length_append, hpl]; rfl
                have htk1 : ∀ mv, (ps ++ [((⟨ea', ek, em⟩ : Ev), mv)]).map Prod.fst = evs.take (n + 1) := fun mv => by rw [← htk]; simp
                have hsz := Lib.hid (Nat.le_trans hE.grown.size hal.size)
                replace hpl1 := Lib.hid hpl1
                replace htk1 := Lib.hid htk1
                clear hE hmv hmv' htk hpm hpl hme0 hsame hal bx hbR
                obtain ⟨W5, hW5⟩ : ∃ W5, wr.alloc (.cells #[.int .i64 ea', .int .i64 ek, .slice ma ml mc] 67) = W5 := ⟨_, rfl⟩
                rw [hW5] at x2 hcl hpush hsz
                go_upto_region 26 with fail
                (with_reducible refine hcl.out.mono ?_)
                rintro e w6 ⟨u, rfl, hur, huo, hb6⟩
                obtain ⟨ca, cc, hu'⟩ := hur.len
                rw [hml'.out] at hu'
                subst hu'
                obtain ⟨y2, yf, w7, hw7, z0, z1, z2, c3, c3', va', vn', vc', w9, hrun, d3, f3, hE9⟩ := hpush.out w6 ca cc hb6 (maskS_of hur huo hsz.out)
                replace hrun := Lib.hid hrun
                replace hE9 := Lib.hid hE9
                replace hpl1 := Lib.hid (hpl1.out ((⟨ea', ek, em⟩ : Ev), .slice ca ml cc))
                replace htk1 := Lib.hid (htk1.out (.slice ca ml cc))
                clear hur huo hb6
                go_upto_region 26 with fail
                try clear hw7
                try clear hW5
                refine wp_region_noPanic ?_
                refine wp_region_held_drew (S := fun _ => True) (by kernel_rfl) (trivial) (fun hHeld => ?_)
                refine wpAnyH_take (i := 0) (v := ?_) rfl (by kernel_rfl) (by kernel_rfl) (by kernel_rfl) (fun _ _ _ h => h) (Or.inl ⟨rfl, ?_⟩) (by assumption) ?_
                rotate_left
                · intro W hSw
                  (try dsimp only at hSw)
                  go_simp
                  try with_reducible rfl
                try simp only [List.getElem_toArray, List.getElem_cons_zero, List.getElem_cons_succ, Act.put, List.setIfInBounds_toArray, List.set_cons_zero, List.set_cons_succ]
                refine wpAnyH_take (i := 1) (v := ?_) rfl (by kernel_rfl) (by kernel_rfl) (by kernel_rfl) (fun _ _ _ h => h) (Or.inl ⟨rfl, ?_⟩) (by assumption) ?_
                rotate_left
                · intro W hSw
                  (try dsimp only at hSw)
                  go_simp
                  try with_reducible rfl
                try simp only [List.getElem_toArray, List.getElem_cons_zero, List.getElem_cons_succ, Act.put, List.setIfInBounds_toArray, List.set_cons_zero, List.set_cons_succ]
                refine wpAnyH_take (i := 2) (v := ?_) rfl (by kernel_rfl) (by kernel_rfl) (by kernel_rfl) (fun _ _ _ h => h) (Or.inl ⟨rfl, ?_⟩) (by assumption) ?_
                rotate_left
                · intro W hSw
                  (try dsimp only at hSw)
                  go_simp
                  try with_reducible rfl
                try simp only [List.getElem_toArray, List.getElem_cons_zero, List.getElem_cons_succ, Act.put, List.setIfInBounds_toArray, List.set_cons_zero, List.set_cons_succ]
                refine wpAnyH_take (i := 3) (v := ?_) rfl (by kernel_rfl) (by kernel_rfl) (by kernel_rfl) (fun _ _ _ h => h) (Or.inl ⟨rfl, ?_⟩) (by assumption) ?_
                rotate_left
                · intro W hSw
                  (try dsimp only at hSw)
                  go_simp
                  try with_reducible rfl
                try simp only [List.getElem_toArray, List.getElem_cons_zero, List.getElem_cons_succ, Act.put, List.setIfInBounds_toArray, List.set_cons_zero, List.set_cons_succ]
                refine wpAnyH_ready (rs := [4, 5]) (by kernel_rfl) (by simp) (AllReadyH.cons rfl (fun K hK => ?_) (AllReadyH.cons rfl (fun K hK => ?_) AllReadyH.nil))
                · go_simp
                  refine hK.out _ _ trivial (fun hHeld => ?_)
                  clear hK
                  try simp only [List.getElem_toArray, List.getElem_cons_zero, List.getElem_cons_succ, Act.put, List.setIfInBounds_toArray, List.set_cons_zero, List.set_cons_succ]
                  refine wpAnyH_ready (rs := [5]) (by kernel_rfl) (by simp) (AllReadyH.cons rfl (fun K hK => ?_) AllReadyH.nil)
                  go_simp
                  refine hK.out _ _ trivial (fun hHeld => ?_)
                  clear hK
                  try simp only [List.getElem_toArray, List.getElem_cons_zero, List.getElem_cons_succ, Act.put, List.setIfInBounds_toArray, List.set_cons_zero, List.set_cons_succ]
                  refine wpAnyH_ready (rs := [6]) (by kernel_rfl) (by simp) (AllReadyH.cons rfl (fun K hK => ?_) AllReadyH.nil)
                  go_simp
                  refine hK.out _ _ trivial (fun hHeld => ?_)
                  clear hK
                  try simp only [List.getElem_toArray, List.getElem_cons_zero, List.getElem_cons_succ, Act.put, List.setIfInBounds_toArray, List.set_cons_zero, List.set_cons_succ]
                  refine wpAnyH_ready (rs := [7]) (by kernel_rfl) (by simp) (AllReadyH.cons rfl (fun K hK => ?_) AllReadyH.nil)
                  refine step_append_run rfl (.tmp 126) (.tmp 128) 25 25 rfl _ _ rfl rfl _ _ hrun.out ?_
                  refine hK.out _ _ trivial (fun hHeld => ?_)
                  clear hK
                  try simp only [List.getElem_toArray, List.getElem_cons_zero, List.getElem_cons_succ, Act.put, List.setIfInBounds_toArray, List.set_cons_zero, List.set_cons_succ]
                  refine wpAnyH_take (i := 8) (v := ?_) rfl (by kernel_rfl) (by kernel_rfl) (by kernel_rfl) (fun _ _ _ h => h) (Or.inl ⟨rfl, ?_⟩) (by assumption) ?_
                  rotate_left
                  · intro W hSw
                    (try dsimp only at hSw)
                    go_simp
                    try with_reducible rfl
                  try simp only [List.getElem_toArray, List.getElem_cons_zero, List.getElem_cons_succ, Act.put, List.setIfInBounds_toArray, List.set_cons_zero, List.set_cons_succ]
                  refine wpAnyH_take (i := 9) (v := ?_) rfl (by kernel_rfl) (by kernel_rfl) (by kernel_rfl) (fun _ _ _ h => h) (Or.inl ⟨rfl, ?_⟩) (by assumption) ?_
                  rotate_left
                  · intro W hSw
                    (try dsimp only at hSw)
                    go_simp
                    try with_reducible rfl
                  try simp only [List.getElem_toArray, List.getElem_cons_zero, List.getElem_cons_succ, Act.put, List.setIfInBounds_toArray, List.set_cons_zero, List.set_cons_succ]
                  refine wpAnyH_ready (rs := [10]) (by kernel_rfl) (by simp) (AllReadyH.cons rfl (fun K hK => ?_) AllReadyH.nil)
                  go_simp
                  refine hK.out _ _ trivial (fun hHeld => ?_)
                  clear hK
                  try simp only [List.getElem_toArray, List.getElem_cons_zero, List.getElem_cons_succ, Act.put, List.setIfInBounds_toArray, List.set_cons_zero, List.set_cons_succ]
                  refine wpAnyH_done (by kernel_rfl) ?_ _
                  (try dsimp only [NoPanic])
                  go_wp2_with fail
                  go_roundw
                  case rel => exact ⟨n + 1, _, _, _, by omega, by go_num, hpl1.out, htk1.out, hE9.out⟩
                  case measure => simp [intOf]; omega
                · go_simp
                  refine hK.out _ _ trivial (fun hHeld => ?_)
                  clear hK
                  try simp only [List.getElem_toArray, List.getElem_cons_zero, List.getElem_cons_succ, Act.put, List.setIfInBounds_toArray, List.set_cons_zero, List.set_cons_succ]
                  refine wpAnyH_ready (rs := [4, 6]) (by kernel_rfl) (by simp) (AllReadyH.cons rfl (fun K hK => ?_) (AllReadyH.cons rfl (fun K hK => ?_) AllReadyH.nil))
                  · go_simp
                    refine hK.out _ _ trivial (fun hHeld => ?_)
                    clear hK
                    try simp only [List.getElem_toArray, List.getElem_cons_zero, List.getElem_cons_succ, Act.put, List.setIfInBounds_toArray, List.set_cons_zero, List.set_cons_succ]
                    refine wpAnyH_ready (rs := [6]) (by kernel_rfl) (by simp) (AllReadyH.cons rfl (fun K hK => ?_) AllReadyH.nil)
                    go_simp
                    refine hK.out _ _ trivial (fun hHeld => ?_)
                    clear hK
                    try simp only [List.getElem_toArray, List.getElem_cons_zero, List.getElem_cons_succ, Act.put, List.setIfInBounds_toArray, List.set_cons_zero, List.set_cons_succ]
                    refine wpAnyH_ready (rs := [7]) (by kernel_rfl) (by simp) (AllReadyH.cons rfl (fun K hK => ?_) AllReadyH.nil)
                    refine step_append_run rfl (.tmp 126) (.tmp 128) 25 25 rfl _ _ rfl rfl _ _ hrun.out ?_
                    refine hK.out _ _ trivial (fun hHeld => ?_)
                    clear hK
                    try simp only [List.getElem_toArray, List.getElem_cons_zero, List.getElem_cons_succ, Act.put, List.setIfInBounds_toArray, List.set_cons_zero, List.set_cons_succ]
                    refine wpAnyH_take (i := 8) (v := ?_) rfl (by kernel_rfl) (by kernel_rfl) (by kernel_rfl) (fun _ _ _ h => h) (Or.inl ⟨rfl, ?_⟩) (by assumption) ?_
                    rotate_left
                    · intro W hSw
                      (try dsimp only at hSw)
                      go_simp
                      try with_reducible rfl
                    try simp only [List.getElem_toArray, List.getElem_cons_zero, List.getElem_cons_succ, Act.put, List.setIfInBounds_toArray, List.set_cons_zero, List.set_cons_succ]
                    refine wpAnyH_take (i := 9) (v := ?_) rfl (by kernel_rfl) (by kernel_rfl) (by kernel_rfl) (fun _ _ _ h => h) (Or.inl ⟨rfl, ?_⟩) (by assumption) ?_
                    rotate_left
                    · intro W hSw
                      (try dsimp only at hSw)
                      go_simp
                      try with_reducible rfl
                    try simp only [List.getElem_toArray, List.getElem_cons_zero, List.getElem_cons_succ, Act.put, List.setIfInBounds_toArray, List.set_cons_zero, List.set_cons_succ]
                    refine wpAnyH_ready (rs := [10]) (by kernel_rfl) (by simp) (AllReadyH.cons rfl (fun K hK => ?_) AllReadyH.nil)
                    go_simp
                    refine hK.out _ _ trivial (fun hHeld => ?_)
                    clear hK
                    try simp only [List.getElem_toArray, List.getElem_cons_zero, List.getElem_cons_succ, Act.put, List.setIfInBounds_toArray, List.set_cons_zero, List.set_cons_succ]
                    refine wpAnyH_done (by kernel_rfl) ?_ _
                    (try dsimp only [NoPanic])
                    go_wp2_with fail
                    go_roundw
                    case rel => exact ⟨n + 1, _, _, _, by omega, by go_num, hpl1.out, htk1.out, hE9.out⟩
                    case measure => simp [intOf]; omega
                  · go_simp
                    refine hK.out _ _ trivial (fun hHeld => ?_)
                    clear hK
                    try simp only [List.getElem_toArray, List.getElem_cons_zero, List.getElem_cons_succ, Act.put, List.setIfInBounds_toArray, List.set_cons_zero, List.set_cons_succ]
                    refine wpAnyH_ready (rs := [4]) (by kernel_rfl) (by simp) (AllReadyH.cons rfl (fun K hK => ?_) AllReadyH.nil)
                    go_simp
                    refine hK.out _ _ trivial (fun hHeld => ?_)
                    clear hK
                    try simp only [List.getElem_toArray, List.getElem_cons_zero, List.getElem_cons_succ, Act.put, List.setIfInBounds_toArray, List.set_cons_zero, List.set_cons_succ]
                    refine wpAnyH_ready (rs := [7]) (by kernel_rfl) (by simp) (AllReadyH.cons rfl (fun K hK => ?_) AllReadyH.nil)
                    refine step_append_run rfl (.tmp 126) (.tmp 128) 25 25 rfl _ _ rfl rfl _ _ hrun.out ?_
                    refine hK.out _ _ trivial (fun hHeld => ?_)
                    clear hK
                    try simp only [List.getElem_toArray, List.getElem_cons_zero, List.getElem_cons_succ, Act.put, List.setIfInBounds_toArray, List.set_cons_zero, List.set_cons_succ]
                    refine wpAnyH_take (i := 8) (v := ?_) rfl (by kernel_rfl) (by kernel_rfl) (by kernel_rfl) (fun _ _ _ h => h) (Or.inl ⟨rfl, ?_⟩) (by assumption) ?_
                    rotate_left
                    · intro W hSw
                      (try dsimp only at hSw)
                      go_simp
                      try with_reducible rfl
                    try simp only [List.getElem_toArray, List.getElem_cons_zero, List.getElem_cons_succ, Act.put, List.setIfInBounds_toArray, List.set_cons_zero, List.set_cons_succ]
                    refine wpAnyH_take (i := 9) (v := ?_) rfl (by kernel_rfl) (by kernel_rfl) (by kernel_rfl) (fun _ _ _ h => h) (Or.inl ⟨rfl, ?_⟩) (by assumption) ?_
                    rotate_left
                    · intro W hSw
                      (try dsimp only at hSw)
                      go_simp
                      try with_reducible rfl
                    try simp only [List.getElem_toArray, List.getElem_cons_zero, List.getElem_cons_succ, Act.put, List.setIfInBounds_toArray, List.set_cons_zero, List.set_cons_succ]
                    refine wpAnyH_ready (rs := [10]) (by kernel_rfl) (by simp) (AllReadyH.cons rfl (fun K hK => ?_) AllReadyH.nil)
                    go_simp
                    refine hK.out _ _ trivial (fun hHeld => ?_)
                    clear hK
                    try simp only [List.getElem_toArray, List.getElem_cons_zero, List.getElem_cons_succ, Act.put, List.setIfInBounds_toArray, List.set_cons_zero, List.set_cons_succ]
                    refine wpAnyH_done (by kernel_rfl) ?_ _
                    (try dsimp only [NoPanic])
                    go_wp2_with fail
                    go_roundw
                    case rel => exact ⟨n + 1, _, _, _, by omega, by go_num, hpl1.out, htk1.out, hE9.out⟩
                    case measure => simp [intOf]; omega
              · obtain rfl : n = el := by omega
                have he : ps.map Prod.fst = evs := by rw [hpm, List.take_of_length_le (by rw [hel'.out]; exact Nat.le_refl _)]
                have hD := hE.done hbw4.out.size hC4.out (fun b hb => hb.1)
                rw [he] at hD
                have hBf := Lib.hid (hbw4.out.grown hE.grown hbw4.out.size (fun b hb => by cases hb; omega))
                replace hD := Lib.hid hD
                clear hE hpm hpl he hsame
                go_wp2_with fail
                go_ret2
                exact newRes_ok hyes.out hD.out (fun b hb => by rcases hb with hb | hb; exact hge.out b hb; exact hb.1) hBf.out
end Go.Proofs.Ytlgjlhgdpiipbaa
