/- sort.SliceStable on a sorted list of strings: nothing turns. -/
import Derived.Test.YthpjinfkagllfaaSoS
import Derived.Test.YthpjinfkagllfaaSh
import Derived.Shelf.GgSortMore.Stable
set_option linter.unusedSimpArgs false
namespace Go.Proofs.Ythpjinfkagllfaa
open Go.RowKit Go.Shelf Go.Lib
attribute [local irreducible] Calls
noncomputable def strI : TypeInfo := (Try.prog.info? 22).get (by kernel_rfl)
noncomputable def strE : TypeInfo := (Try.prog.info? 9).get (by kernel_rfl)
theorem strE_ptr : strE.hasPointers = true := by kernel_rfl
theorem strE_bytes : strE.bytes = 16 := by kernel_rfl
theorem swK1 : swapperK 1 strE 24 = 2 := by kernel_rfl
theorem swK2 (n : Nat) (h : 2 ≤ n) : swapperK n strE 24 = 4 := by
  have c : (n == 0) = false := by simp; omega
  have d : (n == 1) = false := by simp; omega
  unfold swapperK
  simp [c, d, strE_ptr, strE_bytes]
theorem sliceStable_any (ob : Nat) (p : Option Addr) (n c : Nat) (w : World) (h1 : 1 ≤ n) (hn : n ≤ 1048576) (hL : LessNo ob n w) :
    Calls Try.prog 46 #[.iface 22 (.slice p n c), lessF ob] w fun e w' => e = .returned (.tuple #[]) ∧ Below w.heap.size w w' := by
  have hk : ∃ f, Try.prog.funcs.findIdx? (·.name == "internal/reflectlite" ++ ".Swapper$" ++ toString (swapperK n strE 24)) = some f := by
    by_cases h : n = 1
    · subst h; rw [swK1]; exact ⟨94, by kernel_rfl⟩
    · rw [swK2 n (by omega)]; exact ⟨96, by kernel_rfl⟩
  obtain ⟨f, hf⟩ := hk
  have hb : Below w.heap.size w (stableWorld Try.prog Try.laysGt8_ren 22 p n c w) := ((Below.refl _ _).alloc (Nat.le_refl _) _).alloc (by simp) _
  refine Any.sort_SliceStable_of_stable Try.laysGt8 22 9 strI strE (by kernel_rfl) (by kernel_rfl) (by kernel_rfl) (by kernel_rfl) 24 (fun _ => by kernel_rfl) p n c (by omega) f hf (.func 47) #[] #[.pointer (some ⟨ob, 0, none⟩)] w (fun w' => Below w.heap.size w w') ?_
  refine (stable_any ob n _ _ hn (hL.below hb)).mono ?_
  rintro e w' ⟨rfl, h⟩
  exact ⟨rfl, hb.trans (h.mono hb.size)⟩
end Go.Proofs.Ythpjinfkagllfaa
