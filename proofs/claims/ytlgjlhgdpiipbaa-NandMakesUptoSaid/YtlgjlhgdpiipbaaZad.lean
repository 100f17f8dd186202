/- A slice literal of one page, as a step of a region that draws its order. -/
import Derived.Test.YtlgjlhgdpiipbaaZc
namespace Go.Proofs.Ytlgjlhgdpiipbaa
open Go.RowKit
set_option maxRecDepth 100000 in
theorem step_build_pg {ops : Array Oper} {o : Oper} {a : Act} {w : World} {K : Act → World → Prop} {Q : Exit → Act → World → Prop} {E : Prop} (hgd : o.guard = none) (x : Operand) (ho : o.op = .buildSlice 56 1 #[(0, x)]) (l : List UInt8) (hx : a.eval x = .agg (cellsB l)) (hl : l.length = 288)
    (hK : K (a.put o.dst (.slice (some ⟨w.heap.size, 0, none⟩) 1 1)) (w.alloc (.cells (cellsB l) 48))) : if Region.wanted o (yielded ops a.tmps) = true then Oper.wp Try.prog o a w K Q else E := by
  have hw : Region.wanted o (yielded ops a.tmps) = true := by simp [Region.wanted, hgd]
  rw [if_pos hw]
  obtain ⟨i0, hi0, hz0, hz1, hz2⟩ := info_parts info48
  refine Go.wp_buildSlice 56 48 1 _ ho (cellsB l) i0 (.agg (cellsB (rep 288 0))) Try.underlying56 hi0 hz0 (by rw [hz1]; decide) (by rw [hz1]; decide) ?_ hK
  rw [hz1]
  have e := Great.fill_whole (s := 288) (by decide) [.agg (cellsB l)] ((Array.range (1 * 288)).map ((Value.agg (cellsB (rep 288 0))).cells[· % (Value.agg (cellsB (rep 288 0))).cells.size]!)) (fun v hv => by
    rw [List.mem_singleton.1 hv]; show (cellsB l).size = 288; rw [cellsB_size, hl]) (by simp)
  have e2 : (#[(0, x)].map fun (i, x) => (i, a.eval x)).toList = [(0, .agg (cellsB l))] := by simp [hx]
  rw [e2]
  refine e.trans ?_
  simp [Value.cells]
end Go.Proofs.Ytlgjlhgdpiipbaa
