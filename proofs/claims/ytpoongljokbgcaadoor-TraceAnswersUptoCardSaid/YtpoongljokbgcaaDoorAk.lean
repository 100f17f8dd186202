/- What an answer's line says is what the answer tells: the plain law. -/
import Derived.Test.YtpoongljokbgcaaDoorAj
namespace Go.Proofs.YtpoongljokbgcaaDoor.Tr
open Go.RowKit
def want (k : Int) (r : Res) : Res :=
  if r.err ≠ 0 then ⟨r.err, [], 0, 0, 0, []⟩
  else if k = 9 then ⟨0, r.data, 0, 0, 0, []⟩
  else if k = 10 then ⟨0, [], r.kind, r.links, r.size, []⟩
  else if k = 11 then ⟨0, [], 0, 0, 0, r.list.map fun e => ⟨e.name, 0, e.kind⟩⟩
  else resZero
theorem no32 (l : List UInt8) (h : ∀ d ∈ l, 33 ≤ d.toNat) : (32 : UInt8) ∉ l := fun e => absurd (h _ e) (by decide)
theorem itoa32 (n : Int) : (32 : UInt8) ∉ Lib.itoa n := no32 _ fun d h => by have := itoa_mem n d h; omega
theorem parse_of {s : List UInt8} {ws : List (List UInt8)} {k : Int} {r : Res} (hws : spl 32 s = ws) (h : abuild ws = (k, r)) (ha : answer k r = s) : parseAns s = some r := (parse_pa hws h).1 ha
theorem back_error (k : Int) (r : Res) (hr : r.ok) (h : r.err ≠ 0) : parseAns (answer k r) = some (want k r) := by
  have ha : answer k r = wError ++ 32 :: Lib.itoa r.err := by unfold answer; rw [if_pos h]; rfl
  have hw : want k r = ⟨r.err, [], 0, 0, 0, []⟩ := by unfold want; rw [if_pos h]
  rw [ha, hw]
  refine parse_of (ws := [wError, Lib.itoa r.err]) (k := 0) ?_ ?_ ?_
  · rw [spl_cons 32 _ _ (by decide), spl_one 32 _ (itoa32 _)]
  · unfold abuild
    rw [if_pos ⟨rfl, rfl⟩]
    show ((0 : Int), (⟨(pnum (Lib.itoa r.err)).1, [], 0, 0, 0, []⟩ : Res)) = _
    rw [pnum_itoa _ hr.1]
  · unfold answer; rw [if_pos h]; rfl
theorem back_data (r : Res) (h : r.err = 0) : parseAns (answer 9 r) = some (want 9 r) := by
  have h' : ¬ r.err ≠ 0 := fun e => e h
  have ha : answer 9 r = wData ++ 32 :: hexes r.data := by unfold answer; rw [if_neg h', if_pos rfl]; rfl
  have hw : want 9 r = ⟨0, r.data, 0, 0, 0, []⟩ := by unfold want; rw [if_neg h', if_pos rfl]
  rw [ha, hw]
  refine parse_of (ws := [wData, hexes r.data]) (k := 9) ?_ ?_ ?_
  · rw [spl_cons 32 _ _ (by decide), spl_one 32 _ (no32 _ fun d h => by have := hexes_mem _ d h; omega)]
  · unfold abuild
    rw [if_neg (fun e => absurd e.1 (by show ¬ wData = wError; decide)), if_pos ⟨rfl, rfl⟩]
    show ((9 : Int), (⟨0, (unhexesX (hexes r.data)).getD [], 0, 0, 0, []⟩ : Res)) = _
    rw [unhexes_hexes]; rfl
  · unfold answer; rw [if_neg (fun e => e rfl), if_pos rfl]; rfl
theorem back_stat (r : Res) (hr : r.ok) (h : r.err = 0) : parseAns (answer 10 r) = some (want 10 r) := by
  have h' : ¬ r.err ≠ 0 := fun e => e h
  have hs : ∀ a b c : List UInt8, [115, 116, 97, 116, 32] ++ a ++ [32] ++ b ++ [32] ++ c = wStat ++ 32 :: (a ++ 32 :: (b ++ 32 :: c)) := fun a b c => by
    unfold wStat; simp
  have ha : answer 10 r = wStat ++ 32 :: (Lib.itoa r.kind ++ 32 :: (Lib.itoa r.links ++ 32 :: Lib.itoa r.size)) := by
    unfold answer; rw [if_neg h', if_neg (by decide), if_pos rfl, hs]
  have hw : want 10 r = ⟨0, [], r.kind, r.links, r.size, []⟩ := by unfold want; rw [if_neg h', if_neg (by decide), if_pos rfl]
  rw [ha, hw]
  refine parse_of (ws := [wStat, Lib.itoa r.kind, Lib.itoa r.links, Lib.itoa r.size]) (k := 10) ?_ ?_ ?_
  · rw [spl_cons 32 _ _ (by decide), spl_cons 32 _ _ (itoa32 _), spl_cons 32 _ _ (itoa32 _), spl_one 32 _ (itoa32 _)]
  · unfold abuild
    rw [if_neg (fun e => absurd e.1 (by show ¬ wStat = wError; decide)), if_neg (fun e => absurd e.1 (by show ¬ wStat = wData; decide)), if_pos ⟨rfl, rfl⟩]
    show ((10 : Int), (⟨0, [], (pnum (Lib.itoa r.kind)).1, (pnum (Lib.itoa r.links)).1, (pnum (Lib.itoa r.size)).1, []⟩ : Res)) = _
    rw [pnum_itoa _ hr.2.1, pnum_itoa _ hr.2.2.1, pnum_itoa _ hr.2.2.2.1]
  · unfold answer; rw [if_neg (fun e => e rfl), if_neg (by decide), if_pos rfl, hs]
theorem back_list (r : Res) (hr : r.ok) (h : r.err = 0) : parseAns (answer 11 r) = some (want 11 r) := by
  have h' : ¬ r.err ≠ 0 := fun e => e h
  have ha : answer 11 r = Lib.join (wList :: r.list.map ent) [32] := by unfold answer; rw [if_neg h', if_neg (by decide), if_neg (by decide), if_pos rfl]; rfl
  have hw : want 11 r = ⟨0, [], 0, 0, 0, r.list.map fun e => ⟨e.name, 0, e.kind⟩⟩ := by unfold want; rw [if_neg h', if_neg (by decide), if_neg (by decide), if_pos rfl]
  have hee : (r.list.map fun e => (⟨e.name, 0, e.kind⟩ : Ent)).map ent = r.list.map ent := by rw [List.map_map]; rfl
  have hte : (r.list.map ent).map toEnt = r.list.map fun e => (⟨e.name, 0, e.kind⟩ : Ent) := by
    rw [List.map_map]
    exact List.map_congr_left fun e he => toEnt_ent e (hr.2.2.2.2 e he)
  rw [ha, hw]
  refine parse_of (ws := wList :: r.list.map ent) (k := 11) ?_ ?_ ?_
  · refine spl_join 32 wList _ (by decide) fun y hy => ?_
    obtain ⟨e, _, rfl⟩ := List.mem_map.1 hy
    exact no32 _ (ent_mem e)
  · unfold abuild
    rw [if_neg (fun e => absurd e.1 (by show ¬ wList = wError; decide)), if_neg (fun e => absurd e.1 (by show ¬ wList = wData; decide)), if_neg (fun e => absurd e.1 (by show ¬ wList = wStat; decide)), if_pos (show (wList :: r.list.map ent).getD 0 [] = wList from rfl)]
    rw [List.tail_cons, hte]
  · unfold answer; rw [if_neg (fun e => e rfl), if_neg (by decide), if_neg (by decide), if_pos rfl]
    rw [hee]; rfl
theorem back_any (k : Int) (r : Res) (hr : r.ok) : parseAns (answer k r) = some (want k r) := by
  by_cases h : r.err = 0
  · by_cases h9 : k = 9
    · subst h9; exact back_data r h
    by_cases h10 : k = 10
    · subst h10; exact back_stat r hr h
    by_cases h11 : k = 11
    · subst h11; exact back_list r hr h
    have h' : ¬ r.err ≠ 0 := fun e => e h
    have ha : answer k r = [111, 107] := by unfold answer; rw [if_neg h', if_neg h9, if_neg h10, if_neg h11]
    have hw : want k r = resZero := by unfold want; rw [if_neg h', if_neg h9, if_neg h10, if_neg h11]
    rw [ha, hw]
    exact parse_of (ws := [[111, 107]]) (k := 0) (by decide) rfl rfl
  · exact back_error k r hr h
theorem join_mem (c : UInt8) (xs : List (List UInt8)) (d : UInt8) (h : d ∈ Lib.join xs [c]) : d = c ∨ ∃ x ∈ xs, d ∈ x := by
  cases xs with
  | nil => simp [Lib.join_nil] at h
  | cons x r =>
    rw [Lib.join_cons] at h
    rcases List.mem_append.1 h with h | h
    · exact .inr ⟨x, by simp, h⟩
    · unfold Lib.joinTail at h
      obtain ⟨y, hy, hd⟩ := List.mem_flatten.1 h
      obtain ⟨z, hz, rfl⟩ := List.mem_map.1 hy
      rcases List.mem_append.1 hd with hd | hd
      · left; simpa using hd
      · exact .inr ⟨z, by simp [hz], hd⟩
theorem answer_mem (k : Int) (r : Res) : ∀ d ∈ answer k r, 32 ≤ d.toNat := by
  intro d hd
  have hi : ∀ n, d ∈ Lib.itoa n → 32 ≤ d.toNat := fun n h => by have := itoa_mem n d h; omega
  have hw : ∀ l : List UInt8, (l.all fun c => decide (32 ≤ c.toNat)) = true → d ∈ l → 32 ≤ d.toNat := fun l h hd => by simpa using (List.all_eq_true.1 h) d hd
  unfold answer at hd
  split at hd
  · rcases List.mem_append.1 hd with h | h
    · exact hw _ (by decide) h
    · exact hi _ h
  split at hd
  · rcases List.mem_append.1 hd with h | h
    · exact hw _ (by decide) h
    · have := hexes_mem _ d h; omega
  split at hd
  · rcases List.mem_append.1 hd with h | h
    · rcases List.mem_append.1 h with h | h
      · rcases List.mem_append.1 h with h | h
        · rcases List.mem_append.1 h with h | h
          · rcases List.mem_append.1 h with h | h
            · exact hw _ (by decide) h
            · exact hi _ h
          · exact hw _ (by decide) h
        · exact hi _ h
      · exact hw _ (by decide) h
    · exact hi _ h
  split at hd
  · rcases join_mem 32 _ d hd with rfl | ⟨x, hx, h⟩
    · decide
    · rcases List.mem_cons.1 hx with rfl | hx
      · exact hw _ (by decide) h
      · obtain ⟨e, _, rfl⟩ := List.mem_map.1 hx
        have := ent_mem e d h; omega
  · exact hw _ (by decide) hd
theorem answer_no10 (k : Int) (r : Res) : Lib.indexByte (answer k r) 10 = -1 := by
  rw [indexByte_idx, if_neg]
  intro h
  have := answer_mem k r 10 (List.idxOf_lt_length_iff.1 h)
  exact absurd this (by decide)
/-- How long an answer's line is: at most this. -/
def bulkE (l : List Ent) : Nat := (l.map fun e => 3 * e.name.length + 24).sum
theorem join_sum (x : List UInt8) (xs : List (List UInt8)) : (Lib.join (x :: xs) [32]).length = x.length + (xs.map fun y => y.length + 1).sum := by
  rw [Lib.join_cons, List.length_append]
  congr 1
  induction xs with
  | nil => rfl
  | cons y r ih => rw [joinTail_cons, List.length_cons, List.length_append, ih, List.map_cons, List.sum_cons]; omega
theorem list_len (l : List Ent) (h : ∀ e ∈ l, in64 e.kind) : (Lib.join ([108, 105, 115, 116] :: l.map ent) [32]).length ≤ 4 + bulkE l := by
  rw [join_sum]
  show 4 + _ ≤ _
  refine Nat.add_le_add_left ?_ 4
  unfold bulkE
  induction l with
  | nil => simp
  | cons e l ih =>
    have h1 := quo_len e.name
    have h2 := Lib.itoa_length_le e.kind (h e (by simp)).1 (h e (by simp)).2
    have h3 := ih fun x hx => h x (by simp [hx])
    simp only [List.map_cons, List.sum_cons]
    have : (ent e).length ≤ 3 * e.name.length + 23 := by unfold ent; rw [List.length_append, List.length_cons]; omega
    omega
theorem answer_len (k : Int) (r : Res) (hr : r.ok) : (answer k r).length ≤ 100 + 2 * r.data.length + bulkE r.list := by
  have h1 := Lib.itoa_length_le r.err hr.1.1 hr.1.2
  have h2 := Lib.itoa_length_le r.kind hr.2.1.1 hr.2.1.2
  have h3 := Lib.itoa_length_le r.links hr.2.2.1.1 hr.2.2.1.2
  have h4 := Lib.itoa_length_le r.size hr.2.2.2.1.1 hr.2.2.2.1.2
  have h5 := list_len r.list hr.2.2.2.2
  have h6 := hexes_len r.data
  unfold answer
  split
  · simp; omega
  split
  · rw [List.length_append, h6]; simp; omega
  split
  · simp; omega
  split
  · omega
  · simp; omega
end Go.Proofs.YtpoongljokbgcaaDoor.Tr
