/- Plain law: the reference's reading of an answer's line gives what the program's reading gives. -/
import Derived.Test.YtpoongljokbgcaaDoorAk
namespace Go.Proofs.YtpoongljokbgcaaDoor
namespace Tr
def entR (s : List UInt8) : Ent × Bool :=
  if (58 : UInt8) ∈ s then (toEnt s, (pnum (Lib.cut s [58]).2.1).2 && (unq (Lib.cut s [58]).1).isSome) else (⟨[], 0, 0⟩, false)
def abuildR (s : List UInt8) (ws : List (List UInt8)) : (Int × Res) × Bool :=
  if s = [111, 107] then ((0, resZero), true)
  else if ws.getD 0 [] = wError ∧ ws.length = 2 then ((0, ⟨(pnum (ws.getD 1 [])).1, [], 0, 0, 0, []⟩), (pnum (ws.getD 1 [])).2 && (pnum (ws.getD 1 [])).1 != 0)
  else if ws.getD 0 [] = wData ∧ ws.length = 2 then ((9, ⟨0, (unhexesX (ws.getD 1 [])).getD [], 0, 0, 0, []⟩), (unhexesX (ws.getD 1 [])).isSome)
  else if ws.getD 0 [] = wStat ∧ ws.length = 4 then ((10, ⟨0, [], (pnum (ws.getD 1 [])).1, (pnum (ws.getD 2 [])).1, (pnum (ws.getD 3 [])).1, []⟩), (pnum (ws.getD 1 [])).2 && (pnum (ws.getD 2 [])).2 && (pnum (ws.getD 3 [])).2)
  else if ws.getD 0 [] = wList then ((11, ⟨0, [], 0, 0, 0, ws.tail.map fun w => (entR w).1⟩), ws.tail.all fun w => (entR w).2)
  else ((0, resZero), false)
def parseAnsR (s : List UInt8) : Option Res :=
  if (abuildR s (spl 32 s)).2 = true ∧ answer (abuildR s (spl 32 s)).1.1 (abuildR s (spl 32 s)).1.2 = s then some (abuildR s (spl 32 s)).1.2 else none
theorem app32 (a b : List UInt8) (h : (32 : UInt8) ∉ a) (hb : (32 : UInt8) ∉ b) : spl 32 (a ++ [32] ++ b) = [a, b] := by
  rw [List.append_assoc, List.singleton_append, spl_cons 32 a b h, spl_one 32 b hb]
theorem spl_error (n : Int) : spl 32 ([101, 114, 114, 111, 114, 32] ++ Lib.itoa n) = [wError, Lib.itoa n] := app32 wError (Lib.itoa n) (by decide) (itoa32 n)
theorem spl_data (l : List UInt8) : spl 32 ([100, 97, 116, 97, 32] ++ hexes l) = [wData, hexes l] := app32 wData (hexes l) (by decide) (no32 _ fun d h => by have := hexes_mem l d h; omega)
theorem spl_stat (a b c : Int) : spl 32 ([115, 116, 97, 116, 32] ++ Lib.itoa a ++ [32] ++ Lib.itoa b ++ [32] ++ Lib.itoa c) = [wStat, Lib.itoa a, Lib.itoa b, Lib.itoa c] := by
  have e : [115, 116, 97, 116, 32] ++ Lib.itoa a ++ [32] ++ Lib.itoa b ++ [32] ++ Lib.itoa c = wStat ++ 32 :: (Lib.itoa a ++ 32 :: (Lib.itoa b ++ 32 :: Lib.itoa c)) := by simp [wStat]
  rw [e, spl_cons 32 _ _ (by decide), spl_cons 32 _ _ (itoa32 a), spl_cons 32 _ _ (itoa32 b), spl_one 32 _ (itoa32 c)]
theorem spl_list (l : List Ent) : spl 32 (Lib.join (wList :: l.map ent) [32]) = wList :: l.map ent := by
  refine spl_join 32 _ _ (by decide) fun y hy => ?_
  obtain ⟨e, _, rfl⟩ := List.mem_map.1 hy
  exact no32 _ fun d h => ent_mem e d h
theorem mem58 (e : Ent) : (58 : UInt8) ∈ ent e := by unfold ent; simp
theorem entR_ent (e : Ent) (hk : in64 e.kind) : entR (ent e) = (⟨e.name, 0, e.kind⟩, true) := by
  have hc : Lib.cut (ent e) [58] = (quo e.name, Lib.itoa e.kind, true) := cut_at 58 _ _ (fun h => (quo_mem e.name 58 h).2 rfl)
  unfold entR
  rw [if_pos (mem58 e), toEnt_ent e hk, hc]
  simp [pnum_itoa e.kind hk, unq_quo]
theorem ok_word : spl 32 [111, 107] = [[111, 107]] := by decide
theorem parseAnsR_eq (s : List UInt8) : parseAnsR s = parseAns s := by
  obtain ⟨ws, hws⟩ : ∃ ws, spl 32 s = ws := ⟨_, rfl⟩
  unfold parseAnsR parseAns
  rw [hws]
  by_cases hok : s = [111, 107]
  · subst hok
    rw [ok_word] at hws
    subst hws
    have a0 : answer 0 resZero = [111, 107] := by decide
    have hA : abuildR [111, 107] [[111, 107]] = ((0, resZero), true) := if_pos rfl
    have hB : abuild [[111, 107]] = (0, resZero) := by
      unfold abuild; rw [if_neg (by decide), if_neg (by decide), if_neg (by decide), if_neg (by decide)]
    rw [hA, hB]
    simp only
    rw [if_pos ⟨trivial, a0⟩, if_pos a0]
  unfold abuildR abuild
  rw [if_neg hok]
  have hno : ∀ k, answer k resZero = [111, 107] ∨ k = 9 ∨ k = 10 ∨ k = 11 := by
    intro k
    by_cases h9 : k = 9
    · exact .inr (.inl h9)
    by_cases h10 : k = 10
    · exact .inr (.inr (.inl h10))
    by_cases h11 : k = 11
    · exact .inr (.inr (.inr h11))
    · left; unfold answer; rw [if_neg (by decide), if_neg h9, if_neg h10, if_neg h11]
  split
  · -- an error
    rename_i h
    obtain ⟨h0, h2⟩ := h
    simp only
    obtain ⟨n, b, hn⟩ : ∃ n b, pnum (ws.getD 1 []) = (n, b) := ⟨_, _, rfl⟩
    rw [hn]
    simp only
    by_cases ha : answer 0 ⟨n, [], 0, 0, 0, []⟩ = s
    · have hn0 : n ≠ 0 := by
        rintro rfl
        apply hok
        rw [← ha]; decide
      have hw : ws = [wError, Lib.itoa n] := by
        rw [← hws, ← ha]
        unfold answer
        rw [if_pos hn0]
        exact spl_error n
      have hb : b = true := by
        have hin : in64 n := by have := pnum_in (ws.getD 1 []); rw [hn] at this; exact this
        rw [hw] at hn
        have h3 : pnum (Lib.itoa n) = (n, b) := hn
        rw [pnum_itoa n hin] at h3
        exact (Prod.mk.inj h3).2.symm
      subst hb
      rw [if_pos ⟨by simpa using hn0, ha⟩, if_pos ha]
    · rw [if_neg (fun h => ha h.2), if_neg ha]
  split
  · rename_i _ h
    simp only
    obtain ⟨d, hd⟩ : ∃ d, (unhexesX (ws.getD 1 [])).getD [] = d := ⟨_, rfl⟩
    rw [hd]
    by_cases ha : answer 9 ⟨0, d, 0, 0, 0, []⟩ = s
    · have hw : ws = [wData, hexes d] := by
        rw [← hws, ← ha]
        exact spl_data d
      have hb : (unhexesX (ws.getD 1 [])).isSome = true := by
        rw [hw]
        show (unhexesX (hexes d)).isSome = true
        rw [unhexes_hexes]; rfl
      rw [if_pos ⟨hb, ha⟩, if_pos ha]
    · rw [if_neg (fun h => ha h.2), if_neg ha]
  split
  · rename_i _ _ h
    simp only
    obtain ⟨n1, b1, hn1⟩ : ∃ n b, pnum (ws.getD 1 []) = (n, b) := ⟨_, _, rfl⟩
    obtain ⟨n2, b2, hn2⟩ : ∃ n b, pnum (ws.getD 2 []) = (n, b) := ⟨_, _, rfl⟩
    obtain ⟨n3, b3, hn3⟩ : ∃ n b, pnum (ws.getD 3 []) = (n, b) := ⟨_, _, rfl⟩
    have i1 : in64 n1 := by have := pnum_in (ws.getD 1 []); rw [hn1] at this; exact this
    have i2 : in64 n2 := by have := pnum_in (ws.getD 2 []); rw [hn2] at this; exact this
    have i3 : in64 n3 := by have := pnum_in (ws.getD 3 []); rw [hn3] at this; exact this
    rw [hn1, hn2, hn3]
    simp only
    by_cases ha : answer 10 ⟨0, [], n1, n2, n3, []⟩ = s
    · have hw : ws = [wStat, Lib.itoa n1, Lib.itoa n2, Lib.itoa n3] := by
        rw [← hws, ← ha]
        exact spl_stat n1 n2 n3
      rw [hw] at hn1 hn2 hn3
      have h1 : pnum (Lib.itoa n1) = (n1, b1) := hn1
      have h2 : pnum (Lib.itoa n2) = (n2, b2) := hn2
      have h3 : pnum (Lib.itoa n3) = (n3, b3) := hn3
      rw [pnum_itoa n1 i1] at h1
      rw [pnum_itoa n2 i2] at h2
      rw [pnum_itoa n3 i3] at h3
      obtain rfl := (Prod.mk.inj h1).2
      obtain rfl := (Prod.mk.inj h2).2
      obtain rfl := (Prod.mk.inj h3).2
      rw [if_pos ⟨rfl, ha⟩, if_pos ha]
    · rw [if_neg (fun h => ha h.2), if_neg ha]
  split
  · rename_i _ _ _ h
    simp only
    by_cases hall : ∀ x ∈ ws.tail, (entR x).2 = true
    · have hm : (ws.tail.map fun w => (entR w).1) = ws.tail.map toEnt := by
        refine List.map_congr_left fun x hx => ?_
        have := hall x hx
        unfold entR at this ⊢
        split
        · rfl
        · rename_i h58; rw [if_neg h58] at this; cases this
      rw [hm]
      have hb : (ws.tail.all fun w => (entR w).2) = true := List.all_eq_true.2 hall
      rw [hb]
      simp only
      by_cases ha : answer 11 ⟨0, [], 0, 0, 0, ws.tail.map toEnt⟩ = s
      · rw [if_pos ⟨trivial, ha⟩, if_pos ha]
      · rw [if_neg (fun h => ha h.2), if_neg ha]
    · have hb : (ws.tail.all fun w => (entR w).2) = false := by
        rw [Bool.eq_false_iff]
        exact fun h => hall (List.all_eq_true.1 h)
      rw [if_neg (fun h => by rw [hb] at h; cases h.1)]
      rw [if_neg]
      intro ha
      apply hall
      have hw : ws = wList :: (ws.tail.map toEnt).map ent := by
        obtain ⟨m, hm⟩ : ∃ m, ws.tail.map toEnt = m := ⟨_, rfl⟩
        rw [hm] at ha ⊢
        rw [← hws, ← ha]
        exact spl_list m
      intro x hx
      rw [hw] at hx
      simp only [List.tail_cons, List.mem_map] at hx
      obtain ⟨e, ⟨y, _, rfl⟩, rfl⟩ := hx
      rw [entR_ent _ (pnum_in _)]
  · simp only
    rw [if_neg (fun h => by cases h.1), if_neg]
    intro ha
    exact hok ha.symm
end Tr
end Go.Proofs.YtpoongljokbgcaaDoor
