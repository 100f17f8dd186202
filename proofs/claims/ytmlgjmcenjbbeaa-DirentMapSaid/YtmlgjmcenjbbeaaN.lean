/- State, the reference's Entries and Find, Room. -/
import Derived.Test.YtmlgjmcenjbbeaaM
namespace Go.Proofs.Ytmlgjmcenjbbeaa
open Go.RowKit
namespace Nm
def isEnt (r : Rec) : Bool := decide (r.e.ino ≠ 0)
def entsOf (l : List Rec) : List Ent := (l.filter isEnt).map (·.e)
/-- The entries of a block. -/
def ents (b : List UInt8) : List Ent := entsOf ((recs b).getD [])
def findIn (l : List Ent) (n : List UInt8) : Option Ent := l.find? fun e => e.name == n
/-- How long a name may be that has room. -/
def roomOf (l : List Rec) : Int := l.foldl (fun m r => max m (min (free r - 8) 48)) 0
def room (b : List UInt8) : Int := roomOf ((recs b).getD [])
theorem entsOf_snoc (l : List Rec) (r : Rec) : entsOf (l ++ [r]) = entsOf l ++ (if isEnt r then [r.e] else []) := by
  unfold entsOf
  rw [List.filter_append, List.map_append]
  congr 1
  by_cases h : isEnt r = true
  · simp [h]
  · rw [Bool.not_eq_true] at h; simp [h]
theorem entsOf_len (l : List Rec) : (entsOf l).length ≤ l.length := by
  unfold entsOf; rw [List.length_map]; exact List.length_filter_le _ _
theorem roomOf_snoc (l : List Rec) (r : Rec) : roomOf (l ++ [r]) = max (roomOf l) (min (free r - 8) 48) := by
  unfold roomOf; rw [List.foldl_append]; rfl
theorem roomOf_bd (l : List Rec) : 0 ≤ roomOf l ∧ roomOf l ≤ 48 := by
  have : ∀ (n : Nat) (l : List Rec), l.length = n → 0 ≤ roomOf l ∧ roomOf l ≤ 48 := by
    intro n
    induction n with
    | zero => intro l h; rw [List.eq_nil_of_length_eq_zero h]; exact ⟨by decide, by decide⟩
    | succ n ih =>
      intro l h
      have hne : l ≠ [] := by intro e; rw [e] at h; simp at h
      rw [← List.dropLast_concat_getLast hne, roomOf_snoc]
      have := ih l.dropLast (by simp [h])
      omega
  exact this _ l rfl
theorem recsAt_all (b : List UInt8) (hb : b.length = 256) : ∀ (f a : Nat) (acc l : List Rec), recsAt b f a acc = some l → AllRec b acc → acc.length * 8 ≤ a → AllRec b l ∧ l.length ≤ 32
  | 0, _, _, _, h, _, _ => by cases h
  | f + 1, a, acc, l, h, hA, hl => by
    by_cases ha : a = 256
    · subst ha
      rw [recsAt_end] at h
      cases h
      exact ⟨hA, by omega⟩
    · rcases h1 : one b a with _ | r
      · rw [recsAt_none ha h1] at h; cases h
      · rcases hd : dup acc r with _ | _
        · rw [recsAt_some ha h1 hd] at h
          have hi := one_is h1
          have h8 := hi.len8
          exact recsAt_all b hb f _ _ l h (hA.snoc h1) (by simp; omega)
        · rw [recsAt_dup ha h1 hd] at h; cases h
theorem recs_all {b : List UInt8} {l : List Rec} (h : recs b = some l) : AllRec b l ∧ l.length ≤ 32 := by
  unfold recs at h
  split at h
  case isTrue hb => exact recsAt_all b hb _ _ _ _ h (fun q hq => by simp at hq) (by simp)
  case isFalse => cases h
theorem recs_getD (b : List UInt8) : AllRec b ((recs b).getD []) ∧ ((recs b).getD []).length ≤ 32 := by
  rcases h : recs b with _ | l
  · exact ⟨fun q hq => by simp at hq, by simp⟩
  · exact recs_all h
theorem recs_len {b : List UInt8} {l : List Rec} (h : recs b = some l) : b.length = 256 := by
  unfold recs at h
  split at h
  case isTrue hb => exact hb
  case isFalse => cases h
theorem free_of {b : List UInt8} {a : Nat} {r : Rec} (hb : b.length ≤ 256) (h : one b a = some r) : 0 ≤ free r ∧ free r ≤ 256 ∧ free r % 4 = 0 ∧ 8 ≤ r.len ∧ r.len ≤ 256 ∧ r.e.name.length ≤ 48 := by
  have hi := one_is h
  have h1 := hi.len8
  have h2 := hi.len4
  have h3 := hi.fits
  have h4 := hi.own
  have h5 := hi.name48
  unfold free
  unfold own at h4 ⊢
  split
  · refine ⟨by omega, by omega, by omega, by omega, by omega, h5⟩
  · rename_i h0
    rw [if_neg h0] at h4
    have : (need r.e.name : Int) % 4 = 0 := by unfold need; omega
    refine ⟨by omega, by omega, by omega, by omega, by omega, h5⟩
end Nm
theorem recsRes_rd {e0 : TypeId} {o : Option (List Rec)} {w : World} {e : Ending} {w' : World} (h : RecsRes e0 o w e w') : ∃ v, e = .returned (.tuple #[v, .bool o.isSome]) ∧ RdR w' v (o.getD []) ∧ Below w.heap.size w w' := by
  obtain ⟨v, h1, h2, h3⟩ := h
  exact ⟨v, h1, RdC.of_own recL_len h2, h3⟩
def stateOf (b : List UInt8) : Int := if (Nm.recs b).isSome then 0 else 160
theorem state_any (b : List UInt8) (v : Value) (w : World) (hr : RdB w v b) : Calls Try.prog 15 #[v] w (NumB (stateOf b) w) := by
  have h1 := Lib.hid (records_any b v w hr)
  rcases hs : (Nm.recs b).isSome with _ | _
  · have hf := Lib.hid (show stateOf b = 160 by unfold stateOf; rw [hs]; rfl)
    clear hr
    go_enter Try.func15, Try.ntmps15
    go_wp2_with (go_at_call 39; refine h1.out.mono ?_; intro e w1 h; obtain ⟨u, rfl, _, hb⟩ := recsRes_rd h; clear h; rw [hs])
    go_ret
    exact ⟨by rw [hf.out]; rfl, hb⟩
  · have hf := Lib.hid (show stateOf b = 0 by unfold stateOf; rw [hs]; rfl)
    clear hr
    go_enter Try.func15, Try.ntmps15
    go_wp2_with (go_at_call 39; refine h1.out.mono ?_; intro e w1 h; obtain ⟨u, rfl, _, hb⟩ := recsRes_rd h; clear h; rw [hs])
    go_ret
    exact ⟨by rw [hf.out]; rfl, hb⟩
theorem stater_any (b : List UInt8) (v : Value) (w : World) (hr : RdB w v b) : Calls Try.prog 16 #[v] w (NumB (stateOf b) w) := by
  have h1 := Lib.hid (recordsr_any b v w hr)
  rcases hs : (Nm.recs b).isSome with _ | _
  · have hf := Lib.hid (show stateOf b = 160 by unfold stateOf; rw [hs]; rfl)
    clear hr
    go_enter Try.func16, Try.ntmps16
    go_wp2_with (go_at_call 36; refine h1.out.mono ?_; intro e w1 h; obtain ⟨u, rfl, _, hb⟩ := recsRes_rd h; clear h; rw [hs])
    go_ret
    exact ⟨by rw [hf.out]; rfl, hb⟩
  · have hf := Lib.hid (show stateOf b = 0 by unfold stateOf; rw [hs]; rfl)
    clear hr
    go_enter Try.func16, Try.ntmps16
    go_wp2_with (go_at_call 36; refine h1.out.mono ?_; intro e w1 h; obtain ⟨u, rfl, _, hb⟩ := recsRes_rd h; clear h; rw [hs])
    go_ret
    exact ⟨by rw [hf.out]; rfl, hb⟩
/-- Entries of the call's own. -/
def EntsRes (l : List Ent) (w : World) (e : Ending) (w' : World) : Prop :=
  ∃ v, e = .returned v ∧ w'.ownsRow w.heap.size 24 3 v l.length (l.flatMap entL) ∧ Below w.heap.size w w'
theorem infoEnt : (Try.prog.info? 24).map (fun i => (i.zero, i.size, i.bytes)) = some (some (.agg #[.string ⟨#[]⟩, .int .i64 0, .int .i64 0]), 3, 32) := by kernel_rfl
set_option maxRecDepth 100000 in
set_option maxHeartbeats 4000000 in
theorem entriesr_any (b : List UInt8) (v : Value) (w : World) (hr : RdB w v b) : Calls Try.prog 9 #[v] w (EntsRes (Nm.ents b) w) := by
  have h1 := Lib.hid (recordsr_any b v w hr)
  have hents := Lib.hid (show Nm.ents b = Nm.entsOf ((Nm.recs b).getD []) from rfl)
  have hll := (Nm.recs_getD b).2
  clear hr
  obtain ⟨i0, hi0, hz0, hz1, hz2⟩ := info_parts infoEnt
  go_enter Try.func9, Try.ntmps9
  go_wp2_with (go_at_call 36; refine h1.out.mono ?_; intro e w1 h; obtain ⟨u, rfl, hrd, hb1⟩ := recsRes_rd h; clear h)
  obtain ⟨l, hl⟩ : ∃ l, (Nm.recs b).getD [] = l := ⟨_, rfl⟩
  rw [hl] at hrd hents hll
  obtain ⟨la, lc, hu⟩ := hrd.len
  subst hu
  replace hrd := Lib.hid hrd
  clear hl
  have hs1 := hb1.size
  go_loopw [5, 6] (fun o i wr => ∃ k : Nat, k ≤ l.length ∧ i = .int .i64 k ∧ wr.ownsRow w1.heap.size 24 3 o (Nm.entsOf (l.take k)).length ((Nm.entsOf (l.take k)).flatMap entL) ∧ Below w1.heap.size w1 wr) (fun _ i _ => l.length - (intOf i).toNat)
  case atStart => exact ⟨0, by omega, rfl, World.ownsRow_nil _ _ _ _, Below.refl _ _⟩
  case round =>
    obtain ⟨k, hk, rfl, hown, hW⟩ := hrel
    have hsz := hW.size
    by_cases hlt : k < l.length
    · obtain ⟨bb, o, cc, hv, _, hbb, hcell⟩ := (hrd.out.below hW).at (by intro e; rw [e] at hlt; simp at hlt)
      cases hv
      have hsn := Nm.entsOf_snoc (l.take k) l[k]
      rw [← List.take_succ_eq_append_getElem hlt] at hsn
      have hel := Nm.entsOf_len (l.take k)
      rw [List.length_take] at hel
      have c2 := hcell k hlt 2
      have c3 := hcell k hlt 3
      have c4 := hcell k hlt 4
      clear hcell
      obtain ⟨q, hq⟩ : ∃ q, l[k] = q := ⟨_, rfl⟩
      rw [hq] at c2 c3 c4 hsn
      obtain ⟨qa, ql, ⟨qn, qi, qk⟩⟩ := q
      replace c2 := c2 _ rfl
      replace c3 := c3 _ rfl
      replace c4 := c4 _ rfl
      dsimp only at c2 c3 c4
      clear hq
      obtain ⟨E, hE⟩ : ∃ E, Nm.entsOf (l.take k) = E := ⟨_, rfl⟩
      rw [hE] at hsn hown hel
      replace hE := Lib.hid hE
      have hI0 : (0 : Int) ≤ (k : Int) := by omega
      have hI1 : (k : Int) < (l.length : Int) := by omega
      by_cases g : qi = 0
      · have z : (qi != 0) = false := by simpa using g
        have hsn' := Lib.hid (show Nm.entsOf (l.take (k + 1)) = E by rw [hsn]; simp [Nm.isEnt, g])
        clear hsn g
        replace hW := Lib.hid hW
        go_wp2_with fail
        go_roundw
        case rel => exact ⟨k + 1, by omega, by go_num, by rw [hsn'.out]; exact hown, hW.out⟩
        case measure => simp [intOf]; omega
      · have z : (qi != 0) = true := by simpa using g
        have hsn' := Lib.hid (show Nm.entsOf (l.take (k + 1)) = E ++ [⟨qn, qi, qk⟩] by rw [hsn]; simp [Nm.isEnt, g])
        clear hsn g
        go_wp2_with (at_builtin; refine wpList_append_lies _ rfl _ _ 27 rfl w1.heap.size 24 i0 (.agg #[.string ⟨#[]⟩, .int .i64 0, .int .i64 0]) 3 32 Try.underlying27 hi0 hz0 hz1 hz2 rfl (by decide) _ E.length (E.flatMap entL) rfl (hown.alloc _) ⟨wr.heap.size, 0, none⟩ 1 1 [.string (S qn), .int .i64 qi, .int .i64 qk] rfl rfl (World.news_of_block (heap_alloc_new wr (.cells #[.string (S qn), .int .i64 qi, .int .i64 qk] 24))) (by simp [Value.oneCell']) (by omega) (by unfold maxLen; omega) (by omega) (by rw [World.size_alloc]; omega) _ rfl ?_; intro vg vc w3 ho3 hg3 _ _)
        go_roundw
        case rel =>
          refine ⟨k + 1, by omega, by go_num, ?_, (hW.alloc hsz _).grown hg3 (by rw [World.size_alloc]; omega) (fun j hj => (hown.lt j hj).1)⟩
          rw [hsn'.out, List.length_append, List.flatMap_append]
          simpa [entL] using ho3
        case measure => simp [intOf]; omega
    · have hk' : k = l.length := by omega
      subst hk'
      rw [List.take_length] at hown
      replace hown := Lib.hid hown
      replace hW := Lib.hid hW
      go_wp2_with fail
      go_ret
      rw [hents.out]
      exact ⟨_, rfl, own_mono hown.out hs1, hb1.trans (hW.out.mono hs1)⟩
end Go.Proofs.Ytmlgjmcenjbbeaa
