/- place; slices.Clone of a block; what Add, Remove, Turn hand back. -/
import Derived.Test.YtmlgjmcenjbbeaaX
import Derived.Lib.LazyBuf
namespace Go.Proofs.Ytmlgjmcenjbbeaa
open Go.RowKit
/-- append of whatever reads as a list of bytes onto a slice of the call's own. -/
theorem wpList_append_rdb {P : Program} {w : World} {ops : Array Oper} {rest : List Oper} {o : Oper} {a : Act} {Q : Exit → Act → World → Prop} (hgd : o.guard = none) (s x : Operand) (t : TypeId)
    (ho : o.op = .call { callee := .builtin .append, args := #[s, x], argTypes := #[t, t] }) (base : Nat) (hbase : base ≤ w.heap.size)
    (e : TypeId) (i : TypeInfo) (z : Value) (bytes : Nat) (ht : P.underlying t = some (.slice e)) (hi : P.info? e = some i) (hz : i.zero = some z)
    (hsize : i.size = 1) (hby : i.bytes = bytes) (hzs : z.cells.size = 1)
    (v : Value) (n : Nat) (xs : List Value) (hs : a.eval s = v) (hown : w.ownsRow base e 1 v n xs) (l : List UInt8) (hl : l ≠ []) (u : Value) (hx : a.eval x = u) (hr : RdB w u l)
    (h63 : n + l.length ≤ maxLen) (hbytes : (n + l.length) * bytes ≤ 140737488355328)
    (h : ∀ v' w', w'.ownsRow base e 1 v' (n + l.length) (xs ++ l.map byteV) → w.grownBy w' v.ownBlock → wpList P ops Q rest (a.put o.dst v') w') : wpList P ops Q (o :: rest) a w := by
  obtain ⟨b, o', cap, rfl, hc, hb, hcell⟩ := hr.at hl
  refine wpList_plain hgd fun K hK => ?_
  obtain ⟨v', w', hrun, h2, h3, _⟩ := run_append_own_at (P := P) w base t o.type e i z 1 bytes ht hi hz hsize hby hzs (by decide) v n xs hown ⟨b, o', none⟩ l.length cap (l.map byteV) (by simp)
    (fun j u hu => by
      rw [List.getElem?_map] at hu
      obtain ⟨y, hy, rfl⟩ := Option.map_eq_some_iff.1 hu
      have hj := (List.getElem?_eq_some_iff.1 hy).1
      have he : (⟨b, o', none⟩ : Addr).add j = ⟨b, o' + j, none⟩ := by unfold Addr.add; split <;> simp_all
      rw [he, hcell j hj]
      rw [List.getElem?_eq_getElem hj] at hy
      cases hy; rfl)
    (fun u hu => by obtain ⟨y, _, rfl⟩ := List.mem_map.1 hu; rfl) h63 hbytes hbase
  unfold Oper.wp execOp
  simp only [ho, resolve, invoke, builtin, Sem.run_bind, Sem.run_pure, Result.andThen_ok, List.map_toArray, List.map_cons, List.map_nil, hs, hx, hrun]
  exact hK _ _ (h v' w' h2 h3)
set_option maxRecDepth 100000 in
set_option maxHeartbeats 4000000 in
theorem place_any (l : List Rec) (n : List UInt8) (v : Value) (w : World) (hrd : RdR w v l) (hl : l.length ≤ 1000) : Calls Try.prog 45 #[v, .string (S n)] w (NumB (Nm.idx (Nm.isNamed n) l) w) := by
  have hB1 := (Below.refl _ w).alloc (Nat.le_refl _) (.cells #[.string (S n)] 9)
  have bx1 := Box.new w 9 #[.string (S n)]
  have hi := idx57_any (Nm.isNamed n) ⟨w.heap.size, 0, none⟩ l v _ (hrd.below hB1) hl (fun r _ W hW => place1_any r n w.heap.size W ((hW.cell (p := ⟨w.heap.size, 0, none⟩) bx1.lt).trans (bx1.get 0 _ rfl)) (Nat.lt_of_lt_of_le bx1.lt hW.size))
  have hfin : ∀ w', Below (w.alloc (.cells #[.string (S n)] 9)).heap.size (w.alloc (.cells #[.string (S n)] 9)) w' → Below w.heap.size w w' := fun w' hb => hB1.trans (hb.mono hB1.size)
  replace hfin := Lib.hid hfin
  replace hi := Lib.hid hi
  clear hrd hB1 bx1
  go_enter Try.func45, Try.ntmps45
  go_wp2_with (go_at_call 46; refine hi.out.mono ?_; rintro e w' ⟨rfl, hb⟩)
  go_ret
  exact ⟨rfl, hfin.out _ hb⟩
set_option maxRecDepth 100000 in
set_option maxHeartbeats 4000000 in
theorem clone_any (bs : List UInt8) (v : Value) (w : World) (hr : RdB w v bs) (h256 : bs.length = 256) : Calls Try.prog 28 #[v] w (BlkRes bs w) := by
  have hne : bs ≠ [] := by intro e; rw [e] at h256; simp at h256
  obtain ⟨i0, hi0, hz0, hz1, hz2⟩ := info_parts infoByte
  have hB1 := (Below.refl _ w).alloc (Nat.le_refl _) (.cells #[] 5)
  have hr1 := hr.below hB1
  obtain ⟨b, o, cap, hv, hcap, hbb, _⟩ := hr.at hne
  rw [h256] at hv hcap
  subst hv
  have ho : (w.alloc (.cells #[] 5)).ownsRow w.heap.size 5 1 (.slice (some ⟨w.heap.size, 0, none⟩) 0 0) 0 [] := ⟨rfl, .inr ⟨w.heap.size, 0, #[], rfl, Nat.le_refl _, heap_alloc_new w _, Nat.le_refl _, by unfold maxLen; omega, rfl, rfl⟩⟩
  have hfin : ∀ (v' : Value) (w2 : World), w2.ownsRow w.heap.size 5 1 v' bs.length (bs.map byteV) → (w.alloc (.cells #[] 5)).grownBy w2 (some w.heap.size) → BlkRes bs w (.returned v') w2 := fun v' w2 h1 h2 => by
    obtain ⟨g, c, rfl, hg, hO⟩ := OwnB.of_own h1 hne
    exact ⟨g, c, rfl, hg, hO, hB1.grown h2 (by rw [World.size_alloc]; omega) (fun k e => by cases e; exact Nat.le_refl _)⟩
  have heq := fun W => Lib.run_eql_slice_nil (P := Try.prog) W 22 5 (some ⟨b, o, none⟩) 256 cap 0 0 Try.underlying22
  replace hr1 := Lib.hid hr1
  replace ho := Lib.hid ho
  replace hfin := Lib.hid hfin
  replace hne := Lib.hid hne
  replace h256 := Lib.hid h256
  clear hr hB1
  go_enter Try.func28, Try.ntmps28
  go_wp2_with (at_builtin; refine wpList_append_rdb rfl _ _ 22 rfl w.heap.size (by rw [World.size_alloc]; omega) 5 i0 (.int .u8 0) 1 Try.underlying22 hi0 hz0 hz1 hz2 rfl _ 0 [] rfl ho.out bs hne.out _ rfl hr1.out (by rw [h256.out]; decide) (by rw [h256.out]; decide) ?_; intro v' w2 ho2 hg2)
  rw [Nat.zero_add, List.nil_append] at ho2
  go_ret
  exact hfin.out v' w2 ho2 hg2
/-- A block of the call's own, or none, and a number. -/
def OutRes (x : Option (List UInt8) × Int) (w : World) (e : Ending) (w' : World) : Prop :=
  ∃ u, e = .returned (.tuple #[u, .int .i64 x.2]) ∧ (match x.1 with | none => u = .slice none 0 0 | some bs => ∃ g cap, u = .slice (some ⟨g, 0, none⟩) bs.length cap ∧ w.heap.size ≤ g ∧ OwnB w' g cap bs) ∧ Below w.heap.size w w'
theorem outRes_none {x : Option (List UInt8) × Int} {n : Int} {w w' : World} (h : x = (none, n)) (hb : Below w.heap.size w w') : OutRes x w (.returned (.tuple #[.slice none 0 0, .int .i64 n])) w' := by
  subst h; exact ⟨_, rfl, rfl, hb⟩
theorem outRes_some {x : Option (List UInt8) × Int} {bs : List UInt8} {g cap m : Nat} {w w' : World} (h : x = (some bs, 0)) (hm : bs.length = m) (hg : w.heap.size ≤ g) (ho : OwnB w' g cap bs) (hb : Below w.heap.size w w') : OutRes x w (.returned (.tuple #[.slice (some ⟨g, 0, none⟩) m cap, .int .i64 0])) w' := by
  subst h; subst hm; exact ⟨_, rfl, ⟨g, cap, rfl, hg, ho⟩, hb⟩
end Go.Proofs.Ytmlgjmcenjbbeaa
