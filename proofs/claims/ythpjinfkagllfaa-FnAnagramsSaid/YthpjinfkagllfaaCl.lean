/- slices.Clone of words. Condition: the reading; at most 2^20 of them. -/
import Derived.Test.YthpjinfkagllfaaA
import Derived.Test.YthpjinfkagllfaaSh
namespace Go.Proofs.Ythpjinfkagllfaa
open Go.RowKit
theorem OwnS.nil (w : World) (B : Nat) : OwnS w B (.slice none 0 0) [] := World.ownsRow_nil _ _ _ _
theorem clone_any (v : Value) (l : List ByteArray) (w : World) (hv : Strs w v l) (hn : l.length ≤ 1048576) :
    Calls Try.prog 57 #[v] w fun e w' => ∃ v', e = .returned v' ∧ OwnS w' w.heap.size v' l ∧ Below w.heap.size w w' := by
  obtain ⟨a, c, rfl, hl, hc, hcs⟩ := hv.shape
  by_cases h0 : l.length = 0
  · obtain rfl : l = [] := List.eq_nil_of_length_eq_zero h0
    cases a with
    | none =>
      refine (Try.slices_Clone_string_nil _ c w).mono ?_
      rintro e w' ⟨rfl, rfl⟩
      exact ⟨_, rfl, OwnS.nil _ _, Below.refl _ _⟩
    | some a =>
      refine (Try.slices_Clone_string_zero a c w).mono ?_
      rintro e w' ⟨v', rfl, h1, -, h2⟩
      exact ⟨_, rfl, h1, h2⟩
  · obtain ⟨b, off, rfl, -, -⟩ := hcs 0 (by omega)
    refine (Try.slices_Clone_string b off l.length c l w (Nat.le_refl _) (by omega) ?_).mono ?_
    · intro j hj
      obtain ⟨b', off', e, hcell, -⟩ := hcs j hj
      cases e
      rw [hcell, List.getD_eq_getElem?_getD, List.getElem?_eq_getElem hj]; rfl
    · rintro e w' ⟨v', rfl, h1, -, h2⟩
      rw [List.take_length] at h1
      exact ⟨_, rfl, h1, h2⟩
end Go.Proofs.Ythpjinfkagllfaa
