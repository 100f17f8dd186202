/- Arguments as plain data: a slice of texts, and how much it holds. -/
import Derived.Test.YtopfkbpjfcdjnaaDoorQ
import Derived.SliceStrings
namespace Go.Proofs.YtopfkbpjfcdjnaaDoor
open Go.ChangeShapes Go.WideShapes Go.ChangeAt Go.RowKit
section
variable {H : Type} {enc : TypeId × Value → H} {W : World} {base : Nat} {sp : Nat → Bool} {held : Bool}
theorem weightsAll_mem {P : Program} {e : TypeId} : ∀ (l : List (DataW H)) (d : DataW H), d ∈ l → ∀ n ∈ d.weights P e, n ∈ DataW.weightsAll P e l := by
  intro l
  induction l with
  | nil => intro d hd; simp at hd
  | cons x r ih =>
    intro d hd n hn
    simp only [DataW.weightsAll, List.mem_append]
    rcases List.mem_cons.1 hd with rfl | hd
    · exact .inl hn
    · exact .inr (ih d hd n hn)
set_option maxRecDepth 100000 in
theorem open_texts {b0 : Nat} {r : Reach} {v : Value} {d : DataW H} {p : List MemPlace} (hv : Value.okWide Tryd.prog W r b0 22 v) (h : DataW.Trod enc Tryd.prog W base sp held 22 v d p) :
    ∃ xs : List (List UInt8), RdS W v xs ∧ ∀ N, (∀ n ∈ d.weights Tryd.prog 22, n ≤ N) → (∀ x ∈ xs, x.length ≤ N) ∧ xs.length * 16 ≤ N := by
  obtain ⟨a0, len0, cap0, rfl⟩ := okWide_slice Tryd.underlying22 hv
  obtain ⟨fuel, hf⟩ := h
  rcases open_strings Tryd.underlying22 Tryd.underlying9 (by kernel_rfl) hf with ⟨hcs, hx⟩ | ⟨a, len, cap, ss, hcs, _, hl, hm, hz, hx, hcell, hsz⟩
  · have hcs' : Value.slice a0 len0 cap0 = .slice none 0 0 := (List.cons.inj (show [Value.slice a0 len0 cap0] = [.slice none 0 0] from hcs)).1
    rw [hcs']
    exact ⟨[], Rd.nil _ _, fun N _ => ⟨fun x hx => by simp at hx, by simp⟩⟩
  · have hcs' : Value.slice a0 len0 cap0 = .slice (some a) len cap := (List.cons.inj (show [Value.slice a0 len0 cap0] = [.slice (some a) len cap] from hcs)).1
    rw [hcs']
    have hlen : len ≤ ss.length := by rw [hz]; split <;> omega
    have hS : ∀ s : ByteArray, S s.data.toList = s := fun s => by unfold S; simp
    refine ⟨(ss.take len).map (·.data.toList), ?_, fun N hN => ?_⟩
    · have hlm : ((ss.take len).map (·.data.toList)).length = len := by rw [List.length_map, List.length_take]; omega
      refine ⟨some a, cap, by rw [hlm], by rw [hlm]; exact hl, fun j x hj => ?_⟩
      have hj' : j < len := by have := (List.getElem?_eq_some_iff.1 hj).1; rw [hlm] at this; exact this
      have hc := hcell j (by omega)
      rw [List.getElem?_map, List.getElem?_take, if_pos hj', List.getElem?_eq_getElem (by omega)] at hj
      simp only [Option.map_some, Option.some.injEq] at hj
      subst hj
      rw [List.getD_eq_getElem?_getD, List.getElem?_eq_getElem (by omega), Option.getD_some] at hc
      unfold strV
      rw [hS]
      have hs0 := World.cell?_spot (hcell 0 (by omega))
      obtain ⟨b, o, spot⟩ := a
      have : spot = none := by simpa [Addr.add] using hs0
      subst this
      have he : (⟨b, o, none⟩ : Addr).add j = ⟨b, o + j, none⟩ := by unfold Addr.add; split <;> simp_all
      rw [he] at hc
      exact ⟨b, o, rfl, cell_lt hc, hc⟩
    · have hd : d = (DataW.slice (strs (H := H) (ss.take len)) (strs (ss.drop len))) := (Prod.mk.inj hx).1
      rw [hd] at hN
      have hw : ∀ n ∈ (DataW.slice (strs (H := H) (ss.take len)) (strs (ss.drop len))).weights Tryd.prog 22, n ≤ N := hN
      simp only [DataW.weights, Tryd.underlying22, List.mem_cons, List.mem_append] at hw
      have hb : Tryd.prog.bytesOf 9 = 16 := by kernel_rfl
      refine ⟨fun x hx => ?_, ?_⟩
      · obtain ⟨s, hs, rfl⟩ := List.mem_map.1 hx
        refine hw _ (.inr (.inl (weightsAll_mem (P := Tryd.prog) (e := 9) _ (.lit (.string s.data.toList)) ?_ _ (by simp [DataW.weights]))))
        unfold strs
        exact List.mem_map.2 ⟨s, hs, rfl⟩
      · have := hw _ (.inl rfl)
        rw [hb] at this
        simp [strs] at this
        simp
        omega
end
end Go.Proofs.YtopfkbpjfcdjnaaDoor
