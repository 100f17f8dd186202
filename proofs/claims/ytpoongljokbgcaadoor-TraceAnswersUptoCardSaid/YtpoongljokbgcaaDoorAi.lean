/- The contract of trace.ParseAnswer. -/
import Derived.Test.YtpoongljokbgcaaDoorAe
import Derived.Test.YtpoongljokbgcaaDoorAf
import Derived.Test.YtpoongljokbgcaaDoorAg
import Derived.Test.YtpoongljokbgcaaDoorAh
namespace Go.Proofs.YtpoongljokbgcaaDoor
open Go.RowKit
theorem parseAns_any (s : List UInt8) (w : World) (hG : Gl w) (hs : s.length ≤ 4000000) :
    Calls Tryd.prog 15 #[.string (S s)] w (AnsRes (Tr.parseAns s) w) := by
  obtain ⟨ws, hws⟩ : ∃ ws, Tr.spl 32 s = ws := ⟨_, rfl⟩
  have hne : ws ≠ [] := by rw [← hws]; exact Tr.spl_ne 32 s
  obtain ⟨x, ws', hxw⟩ : ∃ x ws', ws = x :: ws' := by
    cases ws with
    | nil => exact (hne rfl).elim
    | cons x ws' => exact ⟨x, ws', rfl⟩
  by_cases h1 : x = Tr.wError
  · by_cases hl : ws.length = 2
    · exact pans_error s w hG hs ws hws x ws' hxw h1 hl
    · exact pans_error_no s w hG hs ws hws x ws' hxw h1 hl
  by_cases h2 : x = Tr.wData
  · by_cases hl : ws.length = 2
    · exact pans_data s w hG hs ws hws x ws' hxw h2 hl
    · exact pans_data_no s w hG hs ws hws x ws' hxw h2 hl
  by_cases h3 : x = Tr.wStat
  · by_cases hl : ws.length = 4
    · exact pans_stat s w hG hs ws hws x ws' hxw h3 hl
    · exact pans_stat_no s w hG hs ws hws x ws' hxw h3 hl
  by_cases h4 : x = Tr.wList
  · by_cases hl : ws' = []
    · exact pans_list_nil s w hG hs ws hws x ws' hxw h4 hl
    · have : ws.length = ws'.length + 1 := by rw [hxw]; rfl
      exact pans_list_some s w hG hs ws hws x ws' hxw h4 ws'.length this (List.length_pos_iff.2 hl)
  exact pans_other s w hG hs ws hws x ws' hxw h1 h2 h3 h4
end Go.Proofs.YtpoongljokbgcaaDoor
