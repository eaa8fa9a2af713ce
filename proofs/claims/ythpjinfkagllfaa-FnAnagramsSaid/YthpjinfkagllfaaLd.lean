/- WordsFrom of both sides. No condition but the readings and the limit of the pile. -/
import Derived.Test.YthpjinfkagllfaaLc
import Derived.Test.YthpjinfkagllfaaN
namespace Go.Proofs.Ythpjinfkagllfaa
open Go.RowKit
/-- The words that can be made with a pile. -/
def wfV (l : List ByteArray) (a : ByteArray) : List ByteArray := if lexB l && isPile a then l.filter (fun s => decide (needR (cntOf a.data.toList) s.data.toList ≤ cntOf a.data.toList 0)) else []
def wfE (l : List ByteArray) (a : ByteArray) : Int := if lexB l then (if isPile a then 0 else 2) else 1
theorem wfV_len (l : List ByteArray) (a : ByteArray) (h : l.length ≤ 1048576) : (wfV l a).length ≤ 1048576 := by
  unfold wfV
  split
  · have := List.length_filter_le (fun s : ByteArray => decide (needR (cntOf a.data.toList) s.data.toList ≤ cntOf a.data.toList 0)) l; omega
  · simp
theorem cntOf_rng (s : ByteArray) (h : s.size ≤ 1048576) (j : Nat) : 0 ≤ cntOf s.data.toList j ∧ cntOf s.data.toList j ≤ 2097152 := by
  have := cntOf_le s.data.toList j; simp at this; omega
theorem isLong_word {s : ByteArray} (h : isLong s = true) : isWord s = true := by
  simp only [isLong, Bool.and_eq_true] at h; exact h.1
theorem isLong_le12 {s : ByteArray} (h : isLong s = true) : s.size ≤ 12 := by
  simp only [isLong, isWord, inI, Bool.and_eq_true, decide_eq_true_eq] at h; omega
theorem wf1_any (s a : ByteArray) (g : Nat) (w : World) (hs : isLong s = true) (ha : isPile a = true) (hc : w.heap[g]? = some (.cells (cs (cntOf a.data.toList)) 53 (0, 0))) :
    Calls Try.prog 62 #[.string s, .pointer (some ⟨g, 0, none⟩)] w fun e w' => e = .returned (.bool (decide (needR (cntOf a.data.toList) s.data.toList ≤ cntOf a.data.toList 0))) ∧ Below w.heap.size w w' := by
  have HW := Lib.hid (isLong_word hs)
  have H12 := isLong_le12 hs
  have h120 := (pile_parts ha).2.2
  have Hc := Lib.hid hc
  clear hc hs
  go_enter Try.func62, Try.ntmps62
  go_wp2_with (refine wpList_load_row rfl 53 _ rfl g rfl _ _ _ _ Hc.out Try.underlying53 rfl (by rw [cs_size]; exact infoCounts) ?_)
  refine (canMake_any _ s _ (cntOf_rng a (by omega)) (by omega) (word_tiles HW.out).1).mono ?_
  rintro e w4 ⟨rfl, hb4⟩
  go_wp2
  go_ret
  exact ⟨rfl, hb4⟩
set_option maxHeartbeats 2000000 in
theorem implWordsFrom_any (v : Value) (l : List ByteArray) (a : ByteArray) (w : World) (hv : LexR w v l) (ha : a.size ≤ 1048576) :
    Calls Try.prog 26 #[v, .string a] w fun e w' => ∃ v', e = .returned (.tuple #[v', .int .i64 (wfE l a)]) ∧ StrsW w' w.heap.size w'.heap.size v' (wfV l a) ∧ Below w.heap.size w w' := by
  obtain ⟨s, rfl, hs⟩ := hv
  obtain ⟨p, c, rfl, -, -, -⟩ := hs.shape
  have hma : a.size ≤ maxLen := by unfold maxLen; omega
  have hb0 : Below w.heap.size w (w.alloc (.cells #[.slice p l.length c] 40)) := (Below.refl _ _).alloc (Nat.le_refl _) _
  have hs0 := hs.below hb0
  have hc0 := cell_newi w #[.slice p l.length c] 40 0 (.slice p l.length c) rfl
  have hmf : ∀ (fn : Fn) (first cap : Array Value) (w : World), (Instr.makeFunc fn first cap).run Try.prog w = .ok (.func fn first cap) w := fun _ _ _ _ => rfl
  cases hlex : lexB l
  · have H := Lib.hid hlex
    go_enter Try.func26, Try.ntmps26
    go_wp2_with fail
    refine (implValidLexicon_any _ l _ ⟨_, rfl, hs0⟩).mono ?_
    rw [hlex]
    rintro e w1 ⟨rfl, hb1⟩
    go_wp2
    go_ret2
    exact ⟨_, by rw [wfE, H.out]; rfl, by rw [wfV, H.out]; exact strs_nil _ _ _, hb0.trans (hb1.mono hb0.size)⟩
  · have H := Lib.hid hlex
    cases hA : isPile a
    · have HA := Lib.hid hA
      go_enter Try.func26, Try.ntmps26
      go_wp2_with fail
      refine (implValidLexicon_any _ l _ ⟨_, rfl, hs0⟩).mono ?_
      rw [hlex]
      rintro e w1 ⟨rfl, hb1⟩
      have hbb := hb0.trans (hb1.mono hb0.size)
      go_wp2_with fail
      refine (ivp_any _ _ hma).mono ?_
      rw [hA]
      rintro e w2 ⟨rfl, hb2⟩
      go_wp2
      go_ret2
      exact ⟨_, by rw [wfE, H.out, HA.out]; rfl, by rw [wfV, H.out, HA.out]; exact strs_nil _ _ _, hbb.trans (hb2.mono hbb.size)⟩
    · have HA := Lib.hid hA
      go_enter Try.func26, Try.ntmps26
      go_wp2_with fail
      refine (implValidLexicon_any _ l _ ⟨_, rfl, hs0⟩).mono ?_
      rw [hlex]
      rintro e w1 ⟨rfl, hb1⟩
      have hbb := hb0.trans (hb1.mono hb0.size)
      have hc1 := cell_below hb1 hc0
      go_wp2_with fail
      refine (ivp_any _ _ hma).mono ?_
      rw [hA]
      rintro e w2 ⟨rfl, hb2⟩
      have hbb := hbb.trans (hb2.mono hbb.size)
      have hc2 := cell_below hb2 hc1
      go_wp2_with fail
      refine (countsOf_any _ _ ha (pile_parts HA.out).1).mono ?_
      rintro e w3 ⟨rfl, hb3⟩
      have hbb := hbb.trans (hb3.mono hbb.size)
      have hc3 := cell_below hb3 hc2
      have hbR : Below w3.heap.size w3 ((w3.alloc (.cells (cs fun _ => 0) 53)).setRow w3.heap.size (cs (cntOf a.data.toList))) := below_setRow ((Below.refl _ _).alloc (Nat.le_refl _) _) (Nat.le_refl _) _
      have hrow := setRow_heap (w3.alloc (.cells (cs fun _ => 0) 53)) w3.heap.size (cs fun _ => 0) (cs (cntOf a.data.toList)) _ _ (heap_alloc_new w3 _)
      have hc5 := cell_below hbR hc3
      have hbb5 := hbb.trans (hbR.mono hbb.size)
      have HbR := Lib.hid (And.intro hrow (And.intro hbb5 (lexB_len H.out)))
      have hs5 := Lib.hid (hs.below hbb5)
      have hold := heap_alloc_new w3 (.cells (cs fun _ => 0) 53)
      rw [cs_zero] at hc5
      rw [cs_zero] at hold
      have Hold := Lib.hid hold
      clear hold
      clear hb1 hb2 hb3 hbb5 hrow hbR hc0 hc1 hc2 hs0 hb0 hs hlex
      go_wp2_with (refine wpList_store_row rfl 53 _ _ rfl w3.heap.size (cs (cntOf a.data.toList)) rfl rfl _ _ Hold.out (by rw [cs_size]; exact infoCounts) (by rw [cs_size]; rfl) (cs_one _) ?_)
      rw [← cs_zero]
      generalize (w3.alloc (.cells (cs fun _ => 0) 53)).setRow w3.heap.size (cs (cntOf a.data.toList)) = w5 at HbR hs5 ⊢
      refine (selected_any _ l 62 _ (fun s => decide (needR (cntOf a.data.toList) s.data.toList ≤ cntOf a.data.toList 0)) _ hs5.out (by have := HbR.out.2.2; omega) Try.call62 (fun s hs2 w' hb' => wf1_any s a w3.heap.size w' (lexB_long H.out s hs2) HA.out ((hb'.block _ (Array.getElem?_eq_some_iff.1 HbR.out.1).1).trans HbR.out.1))).mono ?_
      rintro e w6 ⟨v2, rfl, hv2, hb6⟩
      clear hc5
      go_wp2
      go_ret2
      refine ⟨_, by rw [wfE, H.out, HA.out]; rfl, by rw [wfV, H.out, HA.out]; exact hv2.mono HbR.out.2.1.size (Nat.le_refl _), HbR.out.2.1.trans (hb6.mono HbR.out.2.1.size)⟩
end Go.Proofs.Ythpjinfkagllfaa
