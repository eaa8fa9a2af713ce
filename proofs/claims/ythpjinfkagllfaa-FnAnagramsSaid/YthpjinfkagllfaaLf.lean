/- RemoveWord of both sides; slices.Clone and slices.Delete of words. Conditions: the readings; strings of at most 2^20 bytes. -/
import Derived.Test.YthpjinfkagllfaaLe
import Derived.Test.YthpjinfkagllfaaCl
import Derived.Sort.OwnSorted
import Derived.Laws.ResultCell
import Derived.Laws.Rows
namespace Go.Proofs.Ythpjinfkagllfaa
open Go.RowKit
/-- A result in a cell and one in a slot. -/
theorem results_cell_row2 {P : Program} {fn : Func} {p u : Tmp} {ty : TypeId} (h : fn.results = #[.cell p ty, .tmp u]) (tmps : Array Value) (w : World) (g : Nat) (t : TypeId) (cs : Array Value) (fr : Nat × Nat) (d : TypeDesc)
    (hp : tmps.getD p undef = .pointer (some ⟨g, 0, none⟩)) (hg : w.heap[g]? = some (.cells cs t fr))
    (hu : P.underlying ty = some d) (hd : (match d with | .struct _ | .array _ _ => true | _ => false) = true) (hi : (P.info? ty).map (·.size) = some cs.size) :
    (results fn tmps).run P w = .ok (.tuple #[.agg cs, tmps.getD u undef]) w := by
  rw [results_cell_tmp h, hp]
  have hl := run_loadVar_row w g t ty cs fr d hg hu hd hi
  simp [asAddr, hl, Result.andThen]
/-- Is it another one? -/
def neP (p s : ByteArray) : Bool := !decide (s = p)
theorem neP_yes {p s : ByteArray} (h : s ≠ p) : neP p s = true := by simp [neP, h]
theorem neP_self (p : ByteArray) : neP p p = false := by simp [neP]
def remV (l : List ByteArray) (p : ByteArray) : List ByteArray := if lexB l then l.filter (neP p) else []
def remW (l : List ByteArray) (p : ByteArray) : List ByteArray := if lexB l && hasB l p then l.filter (neP p) else []
def remE (l : List ByteArray) (p : ByteArray) : Int := if lexB l then (if hasB l p then 0 else 3) else 1
theorem remW_no {l : List ByteArray} {p : ByteArray} (h : lexB l = false) : remW l p = [] ∧ remE l p = 1 := by simp [remW, remE, h]
theorem remW_not {l : List ByteArray} {p : ByteArray} (h : lexB l = true) (h2 : hasB l p = false) : remW l p = [] ∧ remE l p = 3 := by simp [remW, remE, h, h2]
theorem remW_yes {l : List ByteArray} {p : ByteArray} (h : lexB l = true) (h2 : hasB l p = true) : remW l p = l.filter (neP p) ∧ remE l p = 0 := by simp [remW, remE, h, h2]
theorem remW_len (l : List ByteArray) (p : ByteArray) (h : l.length ≤ 1048576) : (remW l p).length ≤ 1048576 := by
  unfold remW
  split
  · have := List.length_filter_le (neP p) l; omega
  · simp
theorem filter_erase {l : List ByteArray} {p : ByteArray} {k : Nat} (hk : k < l.length) (hp : l[k] = p) (ho : ∀ i, (h : i < l.length) → i ≠ k → l[i] ≠ p) : l.filter (neP p) = l.take k ++ l.drop (k + 1) := by
  have e : l = l.take k ++ l[k] :: l.drop (k + 1) := by rw [← List.drop_eq_getElem_cons hk, List.take_append_drop]
  have h1 : (l.take k).filter (neP p) = l.take k := by
    rw [List.filter_eq_self]
    intro s hs
    obtain ⟨i, hi, rfl⟩ := List.getElem_of_mem hs
    rw [List.length_take] at hi
    rw [List.getElem_take]
    exact neP_yes (ho i (by omega) (by omega))
  have h2 : (l.drop (k + 1)).filter (neP p) = l.drop (k + 1) := by
    rw [List.filter_eq_self]
    intro s hs
    obtain ⟨i, hi, rfl⟩ := List.getElem_of_mem hs
    rw [List.length_drop] at hi
    rw [List.getElem_drop]
    exact neP_yes (ho _ (by omega) (by omega))
  calc l.filter (neP p) = (l.take k ++ l[k] :: l.drop (k + 1)).filter (neP p) := by rw [← e]
    _ = _ := by rw [List.filter_append, List.filter_cons, h1, h2, hp, neP_self]; simp
theorem inc_ne {l : List ByteArray} (h : IncTo l l.length) (i j : Nat) (hi : i < l.length) (hj : j < l.length) (hne : i ≠ j) : l[i] ≠ l[j] := by
  intro e
  rcases Nat.lt_or_gt_of_ne hne with h1 | h1
  · have := inc_lt2 h i j h1 hj; rw [e, bl_irr] at this; cases this
  · have := inc_lt2 h j i h1 hi; rw [e, bl_irr] at this; cases this
theorem rem_is {l : List ByteArray} {p : ByteArray} (h : IncTo l l.length) (hb : hasB l p = true) : l.filter (neP p) = l.take (firstP (lessP p) l) ++ l.drop (firstP (lessP p) l + 1) := by
  obtain ⟨hk, e⟩ := hasB_at h hb
  exact filter_erase hk e fun i hi hne => by rw [← e]; exact inc_ne h _ _ hi hk hne
theorem OwnS.drewN {w : World} {B v l} (h : OwnS w B v l) (q : Nat) : OwnS (w.drewN q) B v l := h.below (below_drewN (Below.refl _ _) q)
theorem encs (l : List ByteArray) : (l.map fun s => s.data.toList).map encStr = l.map Value.string := by
  rw [List.map_map]; rfl
attribute [local irreducible] Calls
set_option maxHeartbeats 1000000 in
theorem l05Has_any (v : Value) (l : List ByteArray) (p : ByteArray) (w : World) (hv : Strs w v l) (hi : IncTo l l.length) (hn : l.length ≤ 1048576) :
    Calls Try.prog 66 #[v, .string p] w fun e w' => e = .returned (.bool (hasB l p)) ∧ Below w.heap.size w w' := by
  have HV := Lib.hid hv
  have HI := Lib.hid hi
  obtain ⟨a, c, rfl, hl, hc, hcs⟩ := hv.shape
  unfold maxLen at hc
  have hf := firstP_le (lessP p) l
  clear hv hi
  by_cases hlt : firstP (lessP p) l < l.length
  · obtain ⟨b1, o1, rfl, hc1, hs1⟩ := hcs _ hlt
    clear hcs
    cases hd : (l[firstP (lessP p) l].toList == p.toList)
    all_goals
      have Hd := Lib.hid hd
      go_enter Try.func66, Try.ntmps66
      go_wp2_with fail
      refine (l05First_any _ l p _ HV.out hn).mono ?_
      rintro e w1 ⟨rfl, hb1⟩
      have hw1 := (hb1.cell (p := ⟨b1, o1 + firstP (lessP p) l, none⟩) (cell_lt hc1)).trans hc1
      have HB := Lib.hid hb1
      clear hb1
      go_wp2
      go_ret
    · exact ⟨ret_bool (hasB_false HI.out fun _ => bytes_ne_of Hd.out), HB.out⟩
    · exact ⟨ret_bool (hasB_true HI.out hlt (bytes_eq_of Hd.out)), HB.out⟩
  · have hd0 : decide (((firstP (lessP p) l : Nat) : Int) < (l.length : Int)) = false := by rw [decide_eq_false_iff_not]; omega
    clear hcs
    go_enter Try.func66, Try.ntmps66
    go_wp2_with fail
    refine (l05First_any _ l p _ HV.out hn).mono ?_
    rintro e w1 ⟨rfl, hb1⟩
    go_wp2
    go_ret
    exact ⟨ret_bool (hasB_false HI.out fun h => absurd h hlt), hb1⟩
end Go.Proofs.Ythpjinfkagllfaa
