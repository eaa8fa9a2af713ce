/- DerivedWords and CompileLexicon of the reference. No condition but the readings. -/
import Derived.Test.YtgefgdkejenhnaaGreatDoorDvS
set_option linter.unusedSimpArgs false
namespace Go.Proofs.YtgefgdkejenhnaaGreatDoor
open Go.RowKit
theorem derL_long {g : GraD} (h : GraOk g) : ∀ d ∈ derL g, isLong d.2 = true := by
  intro d hd
  unfold derL derTo at hd
  rw [List.take_length, List.getElem?_eq_none (Nat.le_refl _), List.append_nil] at hd
  obtain ⟨s, hs, h2⟩ := List.mem_flatMap.1 hd
  obtain ⟨i, hi, rfl⟩ := List.getElem_of_mem hs
  have hl : isLong g.stems[i].word = true := by
    have := h.2.1.1 i hi
    simp only [stemB, Bool.and_eq_true] at this
    exact this.2
  unfold goOn at h2
  obtain ⟨n, hn, h3⟩ := List.mem_flatMap.1 h2
  split at h3
  · rename_i h4
    rw [List.mem_singleton.1 h3]
    exact wordV_long _ _ _ hl h4
  · simp at h3
theorem allW_long {g : GraD} (h : GraOk g) : ∀ s ∈ allW g, isLong s = true := by
  intro s hs
  rw [allW, setS_mem] at hs
  obtain ⟨d, hd, rfl⟩ := List.mem_map.1 hs
  exact derL_long h d hd
theorem long_maxD {s : ByteArray} (h : isLong s = true) : s.size ≤ maxLen := by
  simp only [isLong, isWord, inI, Bool.and_eq_true, decide_eq_true_eq] at h; unfold maxLen; omega
theorem strs_nilD (w : World) (lo hi : Nat) : StrsW w lo hi (.slice none 0 0) [] := ⟨⟨rfl, none, 0, rfl, Nat.le_refl _, by unfold maxLen; omega, .inl rfl⟩, by simp⟩
theorem graB_okD {g : GraD} (h : graB g = true) : GraOk g := by
  by_cases h2 : GraOk g
  · exact h2
  · rw [graB_no h2] at h; cases h
attribute [local irreducible] Calls
set_option maxHeartbeats 2000000 in
theorem specDerivedWords_any (v : Value) (x : GraD) (w : World) (hv : GraR w v x) (_hM : MaxL w) :
    Calls Tryz.prog 7 #[v] w fun e w' => ∃ v', e = .returned (.tuple #[v', .int .i64 (dwE x)]) ∧ StrsW w' w.heap.size w'.heap.size v' (dwV x) ∧ Below w.heap.size w w' := by
  obtain ⟨s1, s2, rfl, ha, hs⟩ := hv
  have hb0 : Below w.heap.size w (w.alloc (.cells #[s1, s2] 33)) := (Below.refl _ _).alloc (Nat.le_refl _) _
  have HB : Hid (GraBox (w.alloc (.cells #[s1, s2] 33)) w.heap.size s1 s2 x) := Lib.hid ⟨cell_newi w _ _ 0 _ rfl, cell_newi w _ _ 1 _ rfl, ha.below hb0, hs.below hb0⟩
  have HB0 := Lib.hid hb0
  obtain ⟨a1, c1, rfl, _⟩ := ha.shape
  obtain ⟨a2, c2, rfl, _⟩ := hs.shape
  clear ha hs hb0
  cases hg : graB x
  · have Hg := Lib.hid (dw_no hg)
    go_enter Tryz.func7, Tryz.ntmps7
    go_wp2_with fail
    refine (l04Ok_any _ _ _ x _ HB.out).mono ?_
    rw [hg]
    rintro e w1 ⟨rfl, q, rfl⟩
    go_wp2
    go_ret2
    exact ⟨_, by rw [Hg.out.2]; rfl, by rw [Hg.out.1]; exact strs_nilD _ _ _, below_drewN HB0.out q⟩
  · have Hg := Lib.hid hg
    go_enter Tryz.func7, Tryz.ntmps7
    go_wp2_with fail
    refine (l04Ok_any _ _ _ x _ HB.out).mono ?_
    rw [hg]
    rintro e w1 ⟨rfl, q, hw1⟩
    have HB1 : Hid (GraBox w1 w.heap.size (.slice a1 x.affixes.length c1) (.slice a2 x.stems.length c2) x) := Lib.hid (by rw [hw1]; exact HB.out.drewN q)
    have HBx : Hid (Below w.heap.size w w1) := Lib.hid (by rw [hw1]; exact below_drewN HB0.out q)
    clear hw1 HB hg
    go_wp2_with fail
    refine (l04Derived_any _ _ _ x _ HB1.out (graB_okD Hg.out)).mono ?_
    rintro e w2 ⟨gg, cap, out, rfl, hown, hwr, hb2⟩
    have HW2 := Lib.hid hwr
    have HO2 := Lib.hid hown
    have HB2 := Lib.hid (HBx.out.trans (hb2.mono HBx.out.size))
    have hlen := hwr.len
    have hsz := HBx.out.size
    clear hown hwr hb2
    by_cases h200 : out.length ≤ 200
    · have h200I : ¬ ((200 : Int) < (out.length : Int)) := by omega
      have HE : Hid (out = allW x ∧ dwV x = allW x ∧ dwE x = 0) := Lib.hid (by
        rcases HW2.out.done with ⟨_, h⟩ | ⟨h, _⟩
        · exact ⟨h, dw_yes Hg.out (by rw [allW, ← h]; exact h200)⟩
        · exact absurd h200 h)
      go_wp2
      go_ret2
      refine ⟨_, by rw [HE.out.2.2]; rfl, ?_, HB2.out⟩
      have hs := (HO2.out.strs (fun s hs => long_maxD (allW_long (graB_okD Hg.out) s (by rw [← HE.out.1]; exact hs)))).mono (lo' := w.heap.size) (hi' := w2.heap.size) hsz (Nat.le_refl _)
      rw [HE.out.2.1, ← HE.out.1]
      exact hs
    · have h200I : (200 : Int) < (out.length : Int) := by omega
      have HE : Hid (dwV x = [] ∧ dwE x = 5) := Lib.hid (by
        rcases HW2.out.done with ⟨h, _⟩ | ⟨_, h⟩
        · exact absurd h h200
        · exact dw_full Hg.out h)
      go_wp2
      go_ret2
      exact ⟨_, by rw [HE.out.2]; rfl, by rw [HE.out.1]; exact strs_nilD _ _ _, HB2.out⟩
end Go.Proofs.YtgefgdkejenhnaaGreatDoor
