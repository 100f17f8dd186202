/- dirent.records: the records of a block. -/
import Derived.Test.YtmlgjmcenjbbeaaK
import Derived.OwnWalk
import Derived.WalkMore

import Derived.Deep.AppendLies
namespace Go.Proofs.Ytmlgjmcenjbbeaa
open Go.RowKit
theorem law9 : Maps.Keyed Try.prog 9 := Maps.string_keyed Try.underlying9
theorem zero4 (w : World) : (zeroValue 4).run Try.prog w = .ok (.bool false) w := by kernel_rfl
theorem infoRec : (Try.prog.info? 69).map (fun i => (i.zero, i.size, i.bytes)) = some (some (.agg #[.int .i64 0, .int .i64 0, .string ⟨#[]⟩, .int .i64 0, .int .i64 0]), 5, 48) := by kernel_rfl
theorem infoRef : (Try.prog.info? 62).map (fun i => (i.zero, i.size, i.bytes)) = some (some (.agg #[.int .i64 0, .int .i64 0, .string ⟨#[]⟩, .int .i64 0, .int .i64 0]), 5, 48) := by kernel_rfl
theorem lookup_bool {W : World} {B n : Nat} {D : DataW Unit} (h : W.ownsMap Try.prog 9 (plainElem Try.prog 4) B n D) (t : TypeId) (ht : Try.prog.underlying t = some (.map 9 4)) (k : List UInt8) (hk : k.length ≤ maxLen) (c : Bool)
    (hc : D.atKey (.string k) (.lit (.bool false)) = .lit (.bool c)) : (Instr.lookup t (.map (some B)) (.string (S k)) false).run Try.prog W = .ok (.bool c) W := by
  obtain ⟨v, ps, hrun, hv⟩ := h.lookup law9 ht (zero4 W) (plainElem_bool Try.underlying4 false) (WideMaps.keyOf_string_mk Try.underlying9 (s := S k) (by simpa using hk))
  rw [hrun]
  have hc' : D.atKey (.string (S k).data.toList) (.lit (.bool false)) = .lit (.bool c) := hc
  rw [hc'] at hv
  unfold plainElem at hv
  rw [Try.underlying4] at hv
  cases v with
  | bool x => simp at hv; rw [hv.1]
  | int q x => simp at hv
  | string s => simp at hv
  | _ => simp at hv
theorem own_mono {W : World} {B B' : Nat} {e : TypeId} {size n : Nat} {v : Value} {xs : List Value} (h : W.ownsRow B e size v n xs) (hb : B' ≤ B) : W.ownsRow B' e size v n xs := by
  obtain ⟨h0, h1⟩ := h
  refine ⟨h0, ?_⟩
  rcases h1 with ⟨a, b⟩ | ⟨g, cap, cur, e1, hg, rest⟩
  · exact .inl ⟨a, b⟩
  · exact .inr ⟨g, cap, cur, e1, Nat.le_trans hb hg, rest⟩
theorem grown_below {w w' : World} (h : Below w.heap.size w w') : w.grownBy w' none := ⟨h.os, h.tape, h.output, h.size, fun k hk _ => h.block k hk⟩
theorem own_below {w w' : World} {B : Nat} {e : TypeId} {size n : Nat} {v : Value} {xs : List Value} (h : w.ownsRow B e size v n xs) (hb : Below w.heap.size w w') : w'.ownsRow B e size v n xs := by
  refine h.kept (grown_below hb) ?_
  rcases h.2 with ⟨rfl, _⟩ | ⟨g, cap, cur, rfl, _⟩
  · exact .inl rfl
  · exact .inr (fun e => by simp [Value.ownBlock] at e)
theorem map_below {w w' : World} {k : TypeId} {R : Value → Option (DataW Unit × List MemPlace)} {b n : Nat} {D : DataW Unit} (h : w.ownsMap Try.prog k R b n D) (hb : Below w.heap.size w w') : w'.ownsMap Try.prog k R b n D := h.kept (grown_below hb) (by simp)
/-- Records of the call's own, or none. -/
def RecsRes (e0 : TypeId) (o : Option (List Rec)) (w : World) (e : Ending) (w' : World) : Prop :=
  ∃ v, e = .returned (.tuple #[v, .bool o.isSome]) ∧ w'.ownsRow w.heap.size e0 5 v (o.getD []).length ((o.getD []).flatMap recL) ∧ Below w.heap.size w w'
theorem recsRes_none {e0 : TypeId} {o : Option (List Rec)} {w w' : World} (h : o = none) (hb : Below w.heap.size w w') : RecsRes e0 o w (.returned (.tuple #[.slice none 0 0, .bool false])) w' := by
  subst h; exact ⟨_, rfl, World.ownsRow_nil _ _ _ _, hb⟩
theorem recsRes_some {e0 : TypeId} {o : Option (List Rec)} {l : List Rec} {v : Value} {w w' : World} (h : o = some l) (ho : w'.ownsRow w.heap.size e0 5 v l.length (l.flatMap recL)) (hb : Below w.heap.size w w') : RecsRes e0 o w (.returned (.tuple #[v, .bool true])) w' := by
  subst h; exact ⟨_, rfl, ho, hb⟩
/-- Between two records. -/
def RecI (b : List UInt8) (w : World) (l : Value) (a : Nat) (acc : List Rec) (W : World) : Prop :=
  a ≤ 256 ∧ acc.length * 8 ≤ a ∧ Nm.AllRec b acc ∧ W.ownsRow (w.heap.size + 1) 69 5 l acc.length (acc.flatMap recL) ∧
    W.ownsMap (H := Unit) Try.prog 9 (plainElem Try.prog 4) w.heap.size acc.length (seenD (acc.map fun q => q.e.name)) ∧ Below w.heap.size w W
set_option maxRecDepth 100000 in
set_option maxHeartbeats 8000000 in
theorem records_any (b : List UInt8) (v : Value) (w : World) (hr : RdB w v b) : Calls Try.prog 39 #[v] w (RecsRes 69 (Nm.recs b) w) := by
  by_cases h256 : b.length = 256
  case neg =>
    obtain ⟨aa, cap, hv⟩ := hr.len
    subst hv
    have hno := Lib.hid (show Nm.recs b = none by unfold Nm.recs; rw [if_neg h256])
    have t1 : ((b.length : Int) != 256) = true := by rw [bne_iff_ne]; omega
    clear hr
    go_enter Try.func39, Try.ntmps39
    go_wp2
    go_step3
    go_wp2
    (try rw [Exit.noGoto_ret])
    go_ret2
    exact recsRes_none hno.out (Below.refl _ _)
  obtain ⟨aa, cap, hv⟩ := hr.len
  have hrec := Lib.hid (show Nm.recs b = Nm.recsAt b 257 0 [] by unfold Nm.recs; rw [if_pos h256])
  have hone := Lib.hid (fun (a : Nat) (W : World) (ha : a ≤ 256) (hW : Below w.heap.size w W) => one_any b a v W (hr.below hW) (by omega) ha)
  rw [h256] at hv
  subst hv
  replace h256 := Lib.hid h256
  clear hr
  obtain ⟨i0, hi0, hz0, hz1, hz2⟩ := info_parts infoRec
  have hmm := @run_makeMap Try.prog
  obtain ⟨W0, hW0⟩ : ∃ W0, w.alloc (.map #[] 0) = W0 := ⟨_, rfl⟩
  have hB0 : Below w.heap.size w W0 := by rw [← hW0]; exact (Below.refl _ _).alloc (Nat.le_refl _) _
  have hM0 : W0.ownsMap (H := Unit) Try.prog 9 (plainElem Try.prog 4) w.heap.size 0 (seenD []) := by rw [← hW0]; exact World.ownsMap_made _ _ _ _
  go_enter Try.func39, Try.ntmps39
  go_wp2
  go_step3
  go_wp2
  go_step3
  go_wp2
  clear hW0 hmm
  go_loopw [4, 6] (fun l i wr => ∃ (f a : Nat) (acc : List Rec), i = .int .i64 a ∧ 256 < f + a ∧ Nm.recs b = Nm.recsAt b f a acc ∧ RecI b w l a acc wr) (fun _ i _ => 256 - (intOf i).toNat)
  case atStart => exact ⟨257, 0, [], rfl, by omega, hrec.out, by omega, by simp, fun q hq => by simp at hq, World.ownsRow_nil _ _ _ _, hM0, hB0⟩
  case round =>
    obtain ⟨f, a, acc, rfl, hf, hR, ha, hacc, hall, hown, hmap, hB⟩ := hrel
    replace hR := Lib.hid hR
    replace hall := Lib.hid hall
    obtain ⟨f, rfl⟩ : ∃ g, f = g + 1 := ⟨f - 1, by omega⟩
    by_cases ha6 : a = 256
    · subst ha6
      have hfin := Lib.hid (show Nm.recs b = some acc by rw [hR.out, Nm.recsAt_end])
      replace hown := Lib.hid hown
      replace hmap := Lib.hid hmap
      replace hB := Lib.hid hB
      go_wp2
      (try rw [Exit.noGoto_ret])
      go_ret2
      exact recsRes_some hfin.out (own_mono hown.out (by omega)) hB.out
    · have n6 : ((a : Int) == 256) = false := by rw [beq_eq_false_iff_ne]; omega
      have h1 := Lib.hid (hone.out a wr ha hB)
      rcases hor : Nm.one b a with _ | r
      · have hno := Lib.hid (show Nm.recs b = none by rw [hR.out, Nm.recsAt_none ha6 hor])
        rw [hor] at h1
        replace hown := Lib.hid hown
        replace hmap := Lib.hid hmap
        have hB' := hB.size
        replace hB := Lib.hid hB
        go_wp2_with (go_at_call 56; refine h1.out.mono ?_; rintro e w1 ⟨r, rfl, _, hb1⟩; unfold recV)
        (try rw [Exit.noGoto_ret])
        go_ret2
        exact recsRes_none hno.out ((hB.out.trans (hb1.mono hB')).alloc (Nat.le_trans hB' hb1.size) _)
      · have hir := Nm.one_is hor
        have hall' := Lib.hid (hall.out.snoc hor)
        have hnd := Lib.hid (show r.e.ino ≠ 0 → Nm.dup acc r = (acc.map fun q => q.e.name).contains r.e.name from fun h => Nm.dup_seen hall.out h (hir.some_ h))
        have hnd0 := Lib.hid (show r.e.ino = 0 → Nm.dup acc r = false from fun h => by unfold Nm.dup; simp [h])
        have hno := Lib.hid (show Nm.dup acc r = true → Nm.recs b = none from fun h => by rw [hR.out, Nm.recsAt_dup ha6 hor h])
        have hgo := Lib.hid (show Nm.dup acc r = false → Nm.recs b = Nm.recsAt b f (a + r.len.toNat) (acc ++ [r]) from fun h => by rw [hR.out, Nm.recsAt_some ha6 hor h])
        have hfm := Lib.hid (show (acc ++ [r]).flatMap recL = acc.flatMap recL ++ recL r by rw [List.flatMap_append]; simp)
        have hmp := Lib.hid (show seenD ((acc ++ [r]).map fun q => q.e.name) = (seenD (acc.map fun q => q.e.name)).put (.string r.e.name) (.lit (.bool true)) by rw [List.map_append, List.map_cons, List.map_nil, seenD_snoc])
        have hsd := Lib.hid (seenD_at (acc.map fun q => q.e.name) r.e.name)
        rw [hor] at h1
        obtain ⟨h8, h4, hft, h48⟩ : 8 ≤ r.len ∧ r.len % 4 = 0 ∧ a + r.len ≤ 256 ∧ r.e.name.length ≤ 48 := ⟨hir.len8, hir.len4, by have := hir.fits; rw [h256.out] at this; omega, hir.name48⟩
        clear hor hir
        obtain ⟨ra, rl, ⟨nm, ino, kd⟩⟩ := r
        dsimp only at hnd hnd0 hfm hmp hsd h8 h4 hft h48 hgo
        have hsz := hB.size
        obtain ⟨c, hc⟩ : ∃ c, (acc.map fun q => q.e.name).contains nm = c := ⟨_, rfl⟩
        rw [hc] at hnd hsd
        have h1' : Calls Try.prog 56 #[.slice aa 256 cap, .int .i64 a] wr fun e w' => e = .returned (.tuple #[.agg #[.int .i64 ra, .int .i64 rl, .string (S nm), .int .i64 ino, .int .i64 kd], .bool true]) ∧ Below wr.heap.size wr w' := h1.out.mono (by
          rintro e w' ⟨r', rfl, hr', hb⟩
          have := hr' _ rfl
          subst this
          exact ⟨rfl, hb⟩)
        replace h1' := Lib.hid h1'
        clear h1 hc
        by_cases hd : ino ≠ 0 ∧ c = true
        · obtain ⟨hi, rfl⟩ := hd
          have hi1 : (ino != 0) = true := by simpa using hi
          have hno' := Lib.hid (hno.out (hnd.out hi))
          replace hown := Lib.hid hown
          replace hB := Lib.hid hB
          replace hmap := Lib.hid hmap
          clear hi
          go_wp2_with (go_at_call 56; refine h1'.out.mono ?_; rintro e w1 ⟨rfl, hb1⟩; have hlk := lookup_bool ((map_below hmap.out hb1).alloc (.cells #[.int .i64 ra, .int .i64 rl, .string (S nm), .int .i64 ino, .int .i64 kd] 69)) 80 Try.underlying80 nm (by unfold maxLen; omega) true hsd.out)
          (try rw [Exit.noGoto_ret])
          go_ret2
          exact recsRes_none hno'.out ((hB.out.trans (hb1.mono hsz)).alloc (Nat.le_trans hsz hb1.size) _)
        · have hdn : Nm.dup acc ⟨ra, rl, ⟨nm, ino, kd⟩⟩ = false := by
            by_cases h0 : ino = 0
            · exact hnd0.out h0
            · rw [hnd.out h0]
              rcases c with _ | _
              · rfl
              · exact absurd ⟨h0, rfl⟩ hd
          have hgo' := Lib.hid (hgo.out hdn)
          obtain ⟨n, rfl⟩ : ∃ n : Nat, rl = n := ⟨rl.toNat, by omega⟩
          rw [Int.toNat_natCast] at hgo'
          have hne := Lib.hid (show ∀ k, (wr.heap.size ≤ k ∨ k = w.heap.size) → u4.ownBlock ≠ some k from fun k hk e => by have := hown.lt k e; omega)
          have hml : w.heap.size < wr.heap.size := hmap.lt
          clear hdn hgo hno hnd hnd0
          by_cases h0 : ino = 0
          · have hi1 : (ino != 0) = false := by simpa using h0
            clear hd h0
            go_wp2_with (first
              | (go_at_call 56; refine h1'.out.mono ?_; rintro e w1 ⟨rfl, hb1⟩; have hm1 := (map_below hmap hb1).alloc (.cells #[.int .i64 ra, .int .i64 n, .string (S nm), .int .i64 ino, .int .i64 kd] 69); have ho1 := (own_below hown hb1).alloc (.cells #[.int .i64 ra, .int .i64 n, .string (S nm), .int .i64 ino, .int .i64 kd] 69); have bx1 := Box.new w1 69 #[.int .i64 ra, .int .i64 n, .string (S nm), .int .i64 ino, .int .i64 kd]; have hs1 := hb1.size)
              | (at_mapUpdate; refine wpList_mapUpdate_own _ rfl _ _ _ 80 rfl 9 4 law9 Try.underlying80 _ w.heap.size acc.length _ rfl hm1 (by unfold maxLen; omega) _ _ (.string nm) rfl rfl (show keyOf Try.prog 9 (.string (S nm)) = some (.string nm) from WideMaps.keyOf_string_mk Try.underlying9 (by simp; unfold maxLen; omega)) _ [] (plainElem_bool Try.underlying4 true) ?_; intro w2 hm2 hg2; have bx2 := bx1.grown hg2 (by simp; omega); have ho2 := ho1.kept hg2 (.inr (fun e => hne.out w.heap.size (by omega) e)); have d0 := bx2.get 0 _ rfl; have d1 := bx2.get 1 _ rfl; have d2 := bx2.get 2 _ rfl; have d3 := bx2.get 3 _ rfl; have d4 := bx2.get 4 _ rfl; have hs2 := hg2.size; rw [World.size_alloc] at hs2)
              | (at_builtin; refine wpList_append_lies _ rfl _ _ 64 rfl (w.heap.size + 1) 69 i0 (.agg #[.int .i64 0, .int .i64 0, .string ⟨#[]⟩, .int .i64 0, .int .i64 0]) 5 48 Try.underlying64 hi0 hz0 hz1 hz2 rfl (by decide) _ acc.length (acc.flatMap recL) rfl (ho2.alloc _) ⟨w2.heap.size, 0, none⟩ 1 1 [.int .i64 ra, .int .i64 n, .string (S nm), .int .i64 ino, .int .i64 kd] rfl rfl (World.news_of_block (heap_alloc_new w2 (.cells #[.int .i64 ra, .int .i64 n, .string (S nm), .int .i64 ino, .int .i64 kd] 69))) (by simp [Value.oneCell']) (by omega) (by unfold maxLen; omega) (by omega) (by rw [World.size_alloc]; omega) _ rfl ?_; intro vg vc w3 ho3 hg3 _ _; have bx3 := (bx2.alloc (.cells #[.int .i64 ra, .int .i64 n, .string (S nm), .int .i64 ino, .int .i64 kd] 69)).grown hg3 (fun e => hne.out w1.heap.size (.inl hs1) e.symm); have x1 := bx3.get 1 _ rfl))
            go_roundw
            case rel =>
              have hB1 : Below w.heap.size w w1 := hB.trans (hb1.mono hsz)
              have hs1' : w.heap.size ≤ w1.heap.size := by omega
              have hB2 : Below w.heap.size w w2 := (hB1.alloc hs1' (.cells #[.int .i64 ra, .int .i64 n, .string (S nm), .int .i64 ino, .int .i64 kd] 69)).grown hg2 (by rw [World.size_alloc]; omega) (fun k hk => by cases hk; exact Nat.le_refl _)
              have hB3 : Below w.heap.size w w3 := (hB2.alloc (by omega) (.cells #[.int .i64 ra, .int .i64 n, .string (S nm), .int .i64 ino, .int .i64 kd] 69)).grown hg3 (by rw [World.size_alloc]; omega) (fun k hk => by have := (hown.lt k hk).1; omega)
              refine ⟨f, a + n, acc ++ [⟨ra, n, ⟨nm, ino, kd⟩⟩], by go_num, by omega, hgo'.out, by omega, by simp; omega, hall'.out, ?_, ?_, hB3⟩
              · rw [hfm.out, List.length_append]; exact ho3
              · rw [hmp.out, List.length_append]
                exact (hm2.alloc (.cells #[.int .i64 ra, .int .i64 n, .string (S nm), .int .i64 ino, .int .i64 kd] 69)).kept hg3 (fun e => hne.out w.heap.size (.inr rfl) e.symm)
            case measure => simp [intOf]; omega
          · have hc : c = false := by
              rcases c with _ | _
              · rfl
              · exact absurd ⟨h0, rfl⟩ hd
            subst hc
            have hi1 : (ino != 0) = true := by simpa using h0
            clear hd h0
            go_wp2_with (first
              | (go_at_call 56; refine h1'.out.mono ?_; rintro e w1 ⟨rfl, hb1⟩; have hm1 := (map_below hmap hb1).alloc (.cells #[.int .i64 ra, .int .i64 n, .string (S nm), .int .i64 ino, .int .i64 kd] 69); have ho1 := (own_below hown hb1).alloc (.cells #[.int .i64 ra, .int .i64 n, .string (S nm), .int .i64 ino, .int .i64 kd] 69); have bx1 := Box.new w1 69 #[.int .i64 ra, .int .i64 n, .string (S nm), .int .i64 ino, .int .i64 kd]; have hs1 := hb1.size; have hlk := lookup_bool hm1 80 Try.underlying80 nm (by unfold maxLen; omega) false hsd.out)
              | (at_mapUpdate; refine wpList_mapUpdate_own _ rfl _ _ _ 80 rfl 9 4 law9 Try.underlying80 _ w.heap.size acc.length _ rfl hm1 (by unfold maxLen; omega) _ _ (.string nm) rfl rfl (show keyOf Try.prog 9 (.string (S nm)) = some (.string nm) from WideMaps.keyOf_string_mk Try.underlying9 (by simp; unfold maxLen; omega)) _ [] (plainElem_bool Try.underlying4 true) ?_; intro w2 hm2 hg2; have bx2 := bx1.grown hg2 (by simp; omega); have ho2 := ho1.kept hg2 (.inr (fun e => hne.out w.heap.size (by omega) e)); have d0 := bx2.get 0 _ rfl; have d1 := bx2.get 1 _ rfl; have d2 := bx2.get 2 _ rfl; have d3 := bx2.get 3 _ rfl; have d4 := bx2.get 4 _ rfl; have hs2 := hg2.size; rw [World.size_alloc] at hs2)
              | (at_builtin; refine wpList_append_lies _ rfl _ _ 64 rfl (w.heap.size + 1) 69 i0 (.agg #[.int .i64 0, .int .i64 0, .string ⟨#[]⟩, .int .i64 0, .int .i64 0]) 5 48 Try.underlying64 hi0 hz0 hz1 hz2 rfl (by decide) _ acc.length (acc.flatMap recL) rfl (ho2.alloc _) ⟨w2.heap.size, 0, none⟩ 1 1 [.int .i64 ra, .int .i64 n, .string (S nm), .int .i64 ino, .int .i64 kd] rfl rfl (World.news_of_block (heap_alloc_new w2 (.cells #[.int .i64 ra, .int .i64 n, .string (S nm), .int .i64 ino, .int .i64 kd] 69))) (by simp [Value.oneCell']) (by omega) (by unfold maxLen; omega) (by omega) (by rw [World.size_alloc]; omega) _ rfl ?_; intro vg vc w3 ho3 hg3 _ _; have bx3 := (bx2.alloc (.cells #[.int .i64 ra, .int .i64 n, .string (S nm), .int .i64 ino, .int .i64 kd] 69)).grown hg3 (fun e => hne.out w1.heap.size (.inl hs1) e.symm); have x1 := bx3.get 1 _ rfl))
            go_roundw
            case rel =>
              have hB1 : Below w.heap.size w w1 := hB.trans (hb1.mono hsz)
              have hs1' : w.heap.size ≤ w1.heap.size := by omega
              have hB2 : Below w.heap.size w w2 := (hB1.alloc hs1' (.cells #[.int .i64 ra, .int .i64 n, .string (S nm), .int .i64 ino, .int .i64 kd] 69)).grown hg2 (by rw [World.size_alloc]; omega) (fun k hk => by cases hk; exact Nat.le_refl _)
              have hB3 : Below w.heap.size w w3 := (hB2.alloc (by omega) (.cells #[.int .i64 ra, .int .i64 n, .string (S nm), .int .i64 ino, .int .i64 kd] 69)).grown hg3 (by rw [World.size_alloc]; omega) (fun k hk => by have := (hown.lt k hk).1; omega)
              refine ⟨f, a + n, acc ++ [⟨ra, n, ⟨nm, ino, kd⟩⟩], by go_num, by omega, hgo'.out, by omega, by simp; omega, hall'.out, ?_, ?_, hB3⟩
              · rw [hfm.out, List.length_append]; exact ho3
              · rw [hmp.out, List.length_append]
                exact (hm2.alloc (.cells #[.int .i64 ra, .int .i64 n, .string (S nm), .int .i64 ino, .int .i64 kd] 69)).kept hg3 (fun e => hne.out w.heap.size (.inr rfl) e.symm)
            case measure => simp [intOf]; omega
end Go.Proofs.Ytmlgjmcenjbbeaa
