import Derived.Test.YtopfkbpjfcdjnaaDoorS
import Derived.Lib.SplitLaws
namespace Go.Proofs.YtopfkbpjfcdjnaaDoor
namespace Tr
/-- what stands between the signs c -/
def spl (c : UInt8) : List UInt8 → List (List UInt8)
  | [] => [[]]
  | b :: l => if b = c then [] :: spl c l else (match spl c l with | x :: xs => (b :: x) :: xs | [] => [[b]])
theorem spl_ne (c : UInt8) (l : List UInt8) : spl c l ≠ [] := by
  cases l with
  | nil => simp [spl]
  | cons b l => unfold spl; split; · simp
                split <;> simp
theorem spl_index (c : UInt8) (l : List UInt8) : (Lib.index l [c] = -1 → spl c l = [l]) ∧ (∀ j : Nat, Lib.index l [c] = j → spl c l = l.take j :: spl c (l.drop (j + 1))) := by
  induction l with
  | nil => exact ⟨fun _ => rfl, fun j h => by rw [Lib.index] at h; simp at h⟩
  | cons b l ih =>
    by_cases h : b = c
    · subst h
      have hix : Lib.index (b :: l) [b] = 0 := by rw [Lib.index]; simp [List.isPrefixOf]
      rw [hix]
      refine ⟨fun h => by omega, fun j hj => ?_⟩
      obtain rfl : j = 0 := by omega
      simp [spl]
    · have hix : Lib.index (b :: l) [c] = if Lib.index l [c] == -1 then -1 else Lib.index l [c] + 1 := by
        rw [Lib.index]; simp [List.isPrefixOf, Ne.symm h]
      rw [hix]
      by_cases hm : Lib.index l [c] = -1
      · rw [if_pos (beq_iff_eq.2 hm)]
        refine ⟨fun _ => by unfold spl; rw [if_neg h, ih.1 hm], fun j hj => by omega⟩
      · have hge := Lib.index_ge l [c]
        rw [if_neg (fun e => hm (beq_iff_eq.1 e))]
        refine ⟨fun h => by omega, fun j hj => ?_⟩
        obtain ⟨i, rfl⟩ : ∃ i, j = i + 1 := ⟨j - 1, by omega⟩
        have := ih.2 i (by omega)
        rw [List.take_succ_cons, List.drop_succ_cons]
        rw [spl, if_neg h, this]
end Tr
theorem splitK_spl (c : UInt8) : ∀ (k : Nat) (l : List UInt8), Lib.count l [c] = k → Lib.splitK [c] 0 k l = Tr.spl c l := by
  intro k
  induction k with
  | zero =>
    intro l h
    by_cases hm : Lib.index l [c] = -1
    · rw [(Tr.spl_index c l).1 hm]; rfl
    · have hge := Lib.index_ge l [c]
      have := Lib.count_hit (s := l) (sub := [c]) (i := (Lib.index l [c]).toNat) (by simp) (by omega)
      omega
  | succ k ih =>
    intro l h
    by_cases hm : Lib.index l [c] = -1
    · have := Lib.count_miss hm; omega
    · have hge := Lib.index_ge l [c]
      obtain ⟨j, hj⟩ : ∃ j : Nat, Lib.index l [c] = j := ⟨(Lib.index l [c]).toNat, by omega⟩
      have hc := Lib.count_hit (s := l) (sub := [c]) (i := j) (by simp) hj
      rw [Lib.splitK, if_neg (fun e => hm (beq_iff_eq.1 e)), (Tr.spl_index c l).2 j hj, hj]
      simp only [Int.toNat_natCast, Nat.add_zero, List.length_cons, List.length_nil, Nat.zero_add]
      rw [ih _ (by simp at hc; omega)]
theorem splitB_spl (c : UInt8) (l : List UInt8) : (Lib.splitB (S [c]) 0 (Lib.countB (S l) (S [c])) (S l)).map (·.data.toList) = Tr.spl c l := by
  rw [Lib.splitB_data]; exact splitK_spl c _ l rfl
theorem splitB_vals (c : UInt8) (l : List UInt8) : (Lib.splitB (S [c]) 0 (Lib.countB (S l) (S [c])) (S l)).map Value.string = (Tr.spl c l).map fun x => Value.string (S x) := by
  rw [← splitB_spl, List.map_map]
  exact List.map_congr_left fun b _ => by show Value.string b = Value.string (S b.data.toList); rw [← S_of]
theorem countB_spl (c : UInt8) (l : List UInt8) : Lib.countB (S l) (S [c]) + 1 = (Tr.spl c l).length := by
  rw [← splitB_spl, List.length_map, Lib.splitB_all (S [c]) (by simp) 0 _ _ rfl]
end Go.Proofs.YtopfkbpjfcdjnaaDoor
