/- CompileLexicon of both sides. Conditions: the reading; MaxLen's cell. -/
import Derived.Test.YtgefgdkejenhnaaGreatDoorDvP
import Derived.Laws.ResultCell
import Derived.Laws.Rows
set_option linter.unusedSimpArgs false
namespace Go.Proofs.YtgefgdkejenhnaaGreatDoor
open Go.RowKit
/-- A result in a cell and one in a slot. -/
theorem res_cell_rowC {P : Program} {fn : Func} {p u : Tmp} {ty : TypeId} (h : fn.results = #[.cell p ty, .tmp u]) (tmps : Array Value) (w : World) (g : Nat) (t : TypeId) (cs : Array Value) (fr : Nat × Nat) (d : TypeDesc)
    (hp : tmps.getD p undef = .pointer (some ⟨g, 0, none⟩)) (hg : w.heap[g]? = some (.cells cs t fr))
    (hu : P.underlying ty = some d) (hd : (match d with | .struct _ | .array _ _ => true | _ => false) = true) (hi : (P.info? ty).map (·.size) = some cs.size) :
    (results fn tmps).run P w = .ok (.tuple #[.agg cs, tmps.getD u undef]) w := by
  rw [results_cell_tmp h, hp]
  have hl := run_loadVar_row w g t ty cs fr d hg hu hd hi
  simp [asAddr, hl, Result.andThen]
attribute [local irreducible] Calls
set_option maxHeartbeats 2000000 in
set_option maxRecDepth 20000 in
theorem specCompileLexicon_any (v : Value) (x : GraD) (w : World) (hv : GraR w v x) (hM : MaxL w) :
    Calls Tryz.prog 15 #[v] w fun e w' => ∃ v', e = .returned (.tuple #[v', .int .i64 (dwE x)]) ∧ LexW w' w.heap.size w'.heap.size v' (dwV x) ∧ Below w.heap.size w w' := by
  have HV := Lib.hid hv
  obtain ⟨s1, s2, rfl, ha, hs⟩ := hv
  obtain ⟨a1, k1, rfl, -, -, -⟩ := ha.shape
  obtain ⟨a2, k2, rfl, -, -, -⟩ := hs.shape
  have hb0 : Below w.heap.size w ((w.alloc (.cells #[.slice a1 x.affixes.length k1, .slice a2 x.stems.length k2] 33)).alloc (.cells #[.slice none 0 0] 41)) := ((Below.refl _ _).alloc (Nat.le_refl _) _).alloc (by simp) _
  have g0 := cell_alloc (.cells #[.slice none 0 0] 41) (cell_newi w #[.slice a1 x.affixes.length k1, .slice a2 x.stems.length k2] 33 0 (.slice a1 x.affixes.length k1) rfl)
  have g1 := cell_alloc (.cells #[.slice none 0 0] 41) (cell_newi w #[.slice a1 x.affixes.length k1, .slice a2 x.stems.length k2] 33 1 (.slice a2 x.stems.length k2) rfl)
  have hr0 := heap_alloc_new (w.alloc (.cells #[.slice a1 x.affixes.length k1, .slice a2 x.stems.length k2] 33)) (.cells #[.slice none 0 0] 41)
  rw [World.size_alloc] at hr0
  have hz0 : w.heap.size + 2 ≤ ((w.alloc (.cells #[.slice a1 x.affixes.length k1, .slice a2 x.stems.length k2] 33)).alloc (.cells #[.slice none 0 0] 41)).heap.size := by simp
  have HB0 := Lib.hid hb0
  have HM0 := Lib.hid (hM.below hb0)
  have HV0 := Lib.hid (HV.out.below hb0)
  have HR0 := Lib.hid hr0
  clear ha hs hM hb0 hr0
  go_enter Tryz.func15, Tryz.ntmps15
  go_wp2_with fail
  refine (specDerivedWords_any _ x _ HV0.out HM0.out).mono ?_
  rintro e w1 ⟨u, rfl, hu, hb1⟩
  have HB1 := Lib.hid (HB0.out.trans (hb1.mono HB0.out.size))
  have HR1 := Lib.hid ((hb1.block (w.heap.size + 1) (by omega)).trans HR0.out)
  have hz1 := hb1.size
  obtain ⟨a3, c3, rfl, -, -, -⟩ := hu.read.shape
  obtain ⟨d0, f0⟩ := cell_of_heap (i := 0) (v := .slice none 0 0) HR1.out rfl
  have HU := Lib.hid hu
  obtain ⟨E, hE⟩ : ∃ E, dwE x = E := ⟨_, rfl⟩
  rw [hE]
  have HE := Lib.hid hE
  clear hb1 hu g0 g1 hE
  by_cases hz : E = 0
  · subst hz
    go_wp2
    have h1 := set1 (.slice a3 (dwV x).length c3) HR1.out
    refine bodyPost_ret (v := .tuple #[.agg #[.slice a3 (dwV x).length c3], .int .i64 0]) (res_cell_rowC (p := 2) (u := 3) (ty := 41) rfl _ _ (w.heap.size + 1) _ _ _ _ rfl h1 Tryz.underlying41 rfl infoLex) rfl ⟨_, by rw [HE.out], ⟨_, rfl, ?_⟩, HB1.out.setCell (p := ⟨w.heap.size + 1, 0, none⟩) (by show _ ≤ w.heap.size + 1; omega) _⟩
    exact (HU.out.kept (kept_setCell (Nat.le_refl _) (Nat.lt_succ_self _) _) (.inr (by omega))).mono (by omega) (by simp [World.setCell])
  · have hzq : (E != 0) = true := by rw [bne_iff_ne]; exact hz
    have hnil : Hid (dwV x = []) := Lib.hid (by
      unfold dwE at HE
      unfold dwV
      have h := HE.out
      split at h
      · split at h
        · exact absurd h.symm hz
        · rename_i h1 h2; rw [if_pos h1, if_neg h2]
      · rename_i h1; rw [if_neg h1])
    go_wp2
    have h1 := set1 (.slice none 0 0) HR1.out
    refine bodyPost_ret (v := .tuple #[.agg #[.slice none 0 0], .int .i64 E]) (res_cell_rowC (p := 2) (u := 3) (ty := 41) rfl _ _ (w.heap.size + 1) _ _ _ _ rfl h1 Tryz.underlying41 rfl infoLex) rfl ⟨_, by rw [HE.out], ⟨_, rfl, ?_⟩, HB1.out.setCell (p := ⟨w.heap.size + 1, 0, none⟩) (by show _ ≤ w.heap.size + 1; omega) _⟩
    rw [hnil.out]
    exact strs_nilD _ _ _
set_option maxHeartbeats 2000000 in
set_option maxRecDepth 20000 in
theorem implCompileLexicon_any (v : Value) (x : GraD) (w : World) (hv : GraR w v x) (hM : MaxL w) :
    Calls Tryz.prog 16 #[v] w fun e w' => ∃ v', e = .returned (.tuple #[v', .int .i64 (dwE x)]) ∧ LexW w' w.heap.size w'.heap.size v' (dwV x) ∧ Below w.heap.size w w' := by
  have HV := Lib.hid hv
  obtain ⟨s1, s2, rfl, ha, hs⟩ := hv
  obtain ⟨a1, k1, rfl, -, -, -⟩ := ha.shape
  obtain ⟨a2, k2, rfl, -, -, -⟩ := hs.shape
  have hb0 : Below w.heap.size w ((w.alloc (.cells #[.slice a1 x.affixes.length k1, .slice a2 x.stems.length k2] 33)).alloc (.cells #[.slice none 0 0] 41)) := ((Below.refl _ _).alloc (Nat.le_refl _) _).alloc (by simp) _
  have g0 := cell_alloc (.cells #[.slice none 0 0] 41) (cell_newi w #[.slice a1 x.affixes.length k1, .slice a2 x.stems.length k2] 33 0 (.slice a1 x.affixes.length k1) rfl)
  have g1 := cell_alloc (.cells #[.slice none 0 0] 41) (cell_newi w #[.slice a1 x.affixes.length k1, .slice a2 x.stems.length k2] 33 1 (.slice a2 x.stems.length k2) rfl)
  have hr0 := heap_alloc_new (w.alloc (.cells #[.slice a1 x.affixes.length k1, .slice a2 x.stems.length k2] 33)) (.cells #[.slice none 0 0] 41)
  rw [World.size_alloc] at hr0
  have hz0 : w.heap.size + 2 ≤ ((w.alloc (.cells #[.slice a1 x.affixes.length k1, .slice a2 x.stems.length k2] 33)).alloc (.cells #[.slice none 0 0] 41)).heap.size := by simp
  have HB0 := Lib.hid hb0
  have HM0 := Lib.hid (hM.below hb0)
  have HV0 := Lib.hid (HV.out.below hb0)
  have HR0 := Lib.hid hr0
  clear ha hs hM hb0 hr0
  go_enter Tryz.func16, Tryz.ntmps16
  go_wp2_with fail
  refine (implDerivedWords_any _ x _ HV0.out HM0.out).mono ?_
  rintro e w1 ⟨u, rfl, hu, hb1⟩
  have HB1 := Lib.hid (HB0.out.trans (hb1.mono HB0.out.size))
  have HR1 := Lib.hid ((hb1.block (w.heap.size + 1) (by omega)).trans HR0.out)
  have hz1 := hb1.size
  obtain ⟨a3, c3, rfl, -, -, -⟩ := hu.read.shape
  obtain ⟨d0, f0⟩ := cell_of_heap (i := 0) (v := .slice none 0 0) HR1.out rfl
  have HU := Lib.hid hu
  obtain ⟨E, hE⟩ : ∃ E, dwE x = E := ⟨_, rfl⟩
  rw [hE]
  have HE := Lib.hid hE
  clear hb1 hu g0 g1 hE
  by_cases hz : E = 0
  · subst hz
    go_wp2
    have h1 := set1 (.slice a3 (dwV x).length c3) HR1.out
    refine bodyPost_ret (v := .tuple #[.agg #[.slice a3 (dwV x).length c3], .int .i64 0]) (res_cell_rowC (p := 2) (u := 3) (ty := 41) rfl _ _ (w.heap.size + 1) _ _ _ _ rfl h1 Tryz.underlying41 rfl infoLex) rfl ⟨_, by rw [HE.out], ⟨_, rfl, ?_⟩, HB1.out.setCell (p := ⟨w.heap.size + 1, 0, none⟩) (by show _ ≤ w.heap.size + 1; omega) _⟩
    exact (HU.out.kept (kept_setCell (Nat.le_refl _) (Nat.lt_succ_self _) _) (.inr (by omega))).mono (by omega) (by simp [World.setCell])
  · have hzq : (E != 0) = true := by rw [bne_iff_ne]; exact hz
    have hnil : Hid (dwV x = []) := Lib.hid (by
      unfold dwE at HE
      unfold dwV
      have h := HE.out
      split at h
      · split at h
        · exact absurd h.symm hz
        · rename_i h1 h2; rw [if_pos h1, if_neg h2]
      · rename_i h1; rw [if_neg h1])
    go_wp2
    have h1 := set1 (.slice none 0 0) HR1.out
    refine bodyPost_ret (v := .tuple #[.agg #[.slice none 0 0], .int .i64 E]) (res_cell_rowC (p := 2) (u := 3) (ty := 41) rfl _ _ (w.heap.size + 1) _ _ _ _ rfl h1 Tryz.underlying41 rfl infoLex) rfl ⟨_, by rw [HE.out], ⟨_, rfl, ?_⟩, HB1.out.setCell (p := ⟨w.heap.size + 1, 0, none⟩) (by show _ ≤ w.heap.size + 1; omega) _⟩
    rw [hnil.out]
    exact strs_nilD _ _ _
end Go.Proofs.YtgefgdkejenhnaaGreatDoor
