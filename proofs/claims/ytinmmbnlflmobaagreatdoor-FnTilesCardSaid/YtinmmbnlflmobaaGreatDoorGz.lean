/- Small laws on boxes of structs. No condition. -/
import Derived.Test.YtinmmbnlflmobaaGreatDoorB
import Derived.Laws.ResultCell
import Derived.Laws.Rows
namespace Go.Proofs.YtinmmbnlflmobaaGreatDoor
open Go.RowKit
theorem src_cell {w : World} {g i : Nat} {cs : Array Value} {t : TypeId} {v : Value} (h : w.heap[g]? = some (.cells cs t (0, 0))) (hv : cs[i]? = some v) : w.cell? ⟨g, i, none⟩ = some v ∧ w.frozen? ⟨g, i, none⟩ = false := by
  exact ⟨by simp [World.cell?, h, hv], by simp [World.frozen?, h]⟩
theorem src_set {w : World} {g i : Nat} {cs : Array Value} {t : TypeId} {fr : Nat × Nat} {u : Value} (h : w.heap[g]? = some (.cells cs t fr)) : (w.setCell ⟨g, i, none⟩ u).heap[g]? = some (.cells (cs.setIfInBounds i u) t fr) := by
  simp [World.setCell, Array.getElem?_modify, h]
/-- A struct of five cells, stored. -/
theorem store5 {w : World} {g : Nat} {x0 x1 x2 x3 x4 : Value} {t : TypeId} {fr : Nat × Nat} (h : w.heap[g]? = some (.cells #[x0, x1, x2, x3, x4] t fr)) (a b c d e : Value) :
    (((((w.setCell ⟨g, 0, none⟩ a).setCell ⟨g, 1, none⟩ b).setCell ⟨g, 2, none⟩ c).setCell ⟨g, 3, none⟩ d).setCell ⟨g, 4, none⟩ e).heap[g]? = some (.cells #[a, b, c, d, e] t fr) ∧
    Kept g (g + 1) w (((((w.setCell ⟨g, 0, none⟩ a).setCell ⟨g, 1, none⟩ b).setCell ⟨g, 2, none⟩ c).setCell ⟨g, 3, none⟩ d).setCell ⟨g, 4, none⟩ e) ∧
    (((((w.setCell ⟨g, 0, none⟩ a).setCell ⟨g, 1, none⟩ b).setCell ⟨g, 2, none⟩ c).setCell ⟨g, 3, none⟩ d).setCell ⟨g, 4, none⟩ e).heap.size = w.heap.size := by
  refine ⟨by simpa using src_set (i := 4) (u := e) (src_set (i := 3) (u := d) (src_set (i := 2) (u := c) (src_set (i := 1) (u := b) (src_set (i := 0) (u := a) h)))), ?_, by simp [World.setCell]⟩
  exact ((((kept_setCell (Nat.le_refl _) (Nat.lt_succ_self _) _).trans (kept_setCell (Nat.le_refl _) (Nat.lt_succ_self _) _)).trans (kept_setCell (Nat.le_refl _) (Nat.lt_succ_self _) _)).trans (kept_setCell (Nat.le_refl _) (Nat.lt_succ_self _) _)).trans (kept_setCell (Nat.le_refl _) (Nat.lt_succ_self _) _)
theorem results_cell_rowU {P : Program} {fn : Func} {p u : Tmp} {ty : TypeId} (h : fn.results = #[.cell p ty, .tmp u]) (tmps : Array Value) (w : World) (g : Nat) (t : TypeId) (cs : Array Value) (fr : Nat × Nat) (d : TypeDesc)
    (hp : tmps.getD p undef = .pointer (some ⟨g, 0, none⟩)) (hg : w.heap[g]? = some (.cells cs t fr))
    (hu : P.underlying ty = some d) (hd : (match d with | .struct _ | .array _ _ => true | _ => false) = true) (hi : (P.info? ty).map (·.size) = some cs.size) :
    (results fn tmps).run P w = .ok (.tuple #[.agg cs, tmps.getD u undef]) w := by
  rw [results_cell_tmp h, hp]
  have hl := run_loadVar_row w g t ty cs fr d hg hu hd hi
  simp [asAddr, hl, Result.andThen]
end Go.Proofs.YtinmmbnlflmobaaGreatDoor
