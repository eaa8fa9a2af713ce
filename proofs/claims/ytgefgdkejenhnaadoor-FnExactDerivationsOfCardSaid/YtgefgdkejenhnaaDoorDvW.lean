/- The ways to use some affixes, of the reference: l04Ways. Conditions: at most twelve affixes, no two of a name. -/
import Derived.Test.YtgefgdkejenhnaaDoorDvM
set_option linter.unusedSimpArgs false
namespace Go.Proofs.YtgefgdkejenhnaaDoor
open Go.RowKit
attribute [local irreducible] Calls
set_option maxHeartbeats 8000000 in
set_option maxRecDepth 20000 in
theorem l04Ways_any (v : Value) (u : List ByteArray) (w : World) (hu : Strs w v u) (h12 : u.length ≤ 12) (hnd : ∀ i k, (hi : i < u.length) → (hk : k < u.length) → i ≠ k → (u[i].toList == u[k].toList) = false) :
    Calls Tryd.prog 47 #[v] w fun e w' => ∃ g cap q, e = .returned (.slice (some ⟨g, 0, none⟩) (waysL u).length cap) ∧ WaysW w' w.heap.size (.slice (some ⟨g, 0, none⟩) (waysL u).length cap) q (waysL u) ∧ Below w.heap.size w w' := by
  obtain ⟨a, c, rfl, hl, hc, hcs⟩ := hu.shape
  unfold maxLen at hc
  have HW0 := Lib.hid (WaysW.start w w.heap.size (Nat.le_refl _))
  have HB0 := Lib.hid (((Below.refl w.heap.size w).alloc (Nat.le_refl _) (.cells #[] 9)).alloc (by simp) (.cells #[.slice (some ⟨w.heap.size, 0, none⟩) 0 0] 35))
  have HC := Lib.hid hcs
  have HND := Lib.hid hnd
  clear hcs hu hnd
  go_enter Tryd.func47, Tryd.ntmps47
  go_wp2
  go_loopw [3, 4] (fun out i wr => ∃ (j g cap : Nat) (q : Nat → Nat), j ≤ u.length ∧ i = .int .i64 (j : Int) ∧ out = .slice (some ⟨g, 0, none⟩) (waysA u j).length cap ∧ Hid (WaysW wr w.heap.size (.slice (some ⟨g, 0, none⟩) (waysA u j).length cap) q (waysA u j)) ∧ Below w.heap.size w wr) (fun _ i _ => u.length - (intOf i).toNat)
  case atStart => exact ⟨0, w.heap.size + 1, 1, _, by omega, rfl, rfl, HW0, HB0.out⟩
  case round =>
    obtain ⟨j, g, cap, q, hj, rfl, rfl, HW, hb⟩ := hrel
    have hsz := hb.size
    by_cases hlt : j < u.length
    · obtain ⟨b1, o1, rfl, hc1, -⟩ := HC.out j hlt
      have hw1 := (hb.cell (cell_lt hc1)).trans hc1
      have hlA : (waysA u j).length ≤ 1000 := by rw [waysA_len hj]; omega
      have hown := HW.out
      clear hc1
      go_wp2_with (first
        | (at_builtin; refine app_way rfl _ _ rfl w.heap.size (.slice (some ⟨g, 0, none⟩) (waysA u j).length cap) q (waysA u j) rfl hown [u[j]] #[.string u[j]] rfl 1 rfl rfl (by omega) hsz ?_; intro g2 cap2 q2 w2 hw2 hb2)
        | fail)
      have HW2 := Lib.hid hw2
      have HB2 := Lib.hid (hb.trans hb2)
      clear hw2 hb2 hown
      go_wp2
      go_roundw
      case rel => exact ⟨j + 1, g2, cap2, q2, by omega, by go_num, by rw [waysA_succ hlt, List.length_append]; rfl, Lib.hid (by rw [waysA_succ hlt, List.length_append]; exact HW2.out), HB2.out⟩
      case measure => simp [intOf]; omega
    · obtain rfl : j = u.length := by omega
      have HB1 := Lib.hid hb
      have HW1 : Hid (WaysW wr w.heap.size (.slice (some ⟨g, 0, none⟩) (waysTo u 0 0).length cap) q (waysTo u 0 0)) := Lib.hid (by rw [waysTo_zero]; exact HW.out)
      clear hb HW
      rw [← waysTo_zero]
      go_wp2
      go_loopw [3, 5] (fun out i wr => ∃ (j g cap : Nat) (q : Nat → Nat), j ≤ u.length ∧ i = .int .i64 (j : Int) ∧ out = .slice (some ⟨g, 0, none⟩) (waysTo u j 0).length cap ∧ Hid (WaysW wr w.heap.size (.slice (some ⟨g, 0, none⟩) (waysTo u j 0).length cap) q (waysTo u j 0)) ∧ Below w.heap.size w wr) (fun _ i _ => u.length - (intOf i).toNat)
      case atStart => exact ⟨0, g, cap, q, by omega, rfl, rfl, HW1, HB1.out⟩
      case round =>
        obtain ⟨j, g, cap, q, hj, rfl, rfl, HW, hb⟩ := hrel
        have HB2 := Lib.hid hb
        clear HW1 HB1
        by_cases hlt : j < u.length
        · clear hb
          go_wp2
          go_loopw [3, 6] (fun out i wr => ∃ (k g cap : Nat) (q : Nat → Nat), k ≤ u.length ∧ i = .int .i64 (k : Int) ∧ out = .slice (some ⟨g, 0, none⟩) (waysTo u j k).length cap ∧ Hid (WaysW wr w.heap.size (.slice (some ⟨g, 0, none⟩) (waysTo u j k).length cap) q (waysTo u j k)) ∧ Below w.heap.size w wr) (fun _ i _ => u.length - (intOf i).toNat)
          case atStart => exact ⟨0, g, cap, q, by omega, rfl, rfl, HW, HB2.out⟩
          case round =>
            obtain ⟨k, g, cap, q, hk, rfl, rfl, HW, hb⟩ := hrel
            have hsz := hb.size
            have HB3 := Lib.hid hb
            by_cases hkl : k < u.length
            · by_cases hjk : j = k
              · subst hjk
                clear hb
                go_wp2
                go_roundw
                case rel => exact ⟨j + 1, g, cap, q, by omega, by go_num, by rw [waysTo_skip hlt hlt (by simp)], Lib.hid (by rw [waysTo_skip hlt hlt (by simp)]; exact HW.out), HB3.out⟩
                case measure => simp [intOf]; omega
              · have hne := HND.out j k hlt hkl hjk
                obtain ⟨b1, o1, rfl, hc1, -⟩ := HC.out j hlt
                obtain ⟨b1', o1', e1, hc2, -⟩ := HC.out k hkl
                cases e1
                have hw1 := (hb.cell (cell_lt hc1)).trans hc1
                have hw2 := (hb.cell (cell_lt hc2)).trans hc2
                have hlA := waysTo_le h12 j k
                have hown := HW.out
                have hjkI : ((j : Int) == (k : Int)) = false := by rw [beq_eq_false_iff_ne]; omega
                have hjkN : (j == k) = false := by rw [beq_eq_false_iff_ne]; omega
                have HE := Lib.hid (waysTo_hit hlt hkl hne)
                have hblt : b1 < w.heap.size := cell_lt hc1
                clear hc1 hc2 hb hne
                have hjI : (j : Int) < (u.length : Int) := by omega
                have hkI : (k : Int) < (u.length : Int) := by omega
                go_wp2
                go_region_held3 (fun w' => w'.cell? ⟨b1, o1 + j, none⟩ = some (.string u[j]) ∧ w'.cell? ⟨b1, o1 + k, none⟩ = some (.string u[k]))
                  (first | exact ⟨hw1, hw2⟩ | exact ⟨cell_alloc _ hw1, cell_alloc _ hw2⟩ | exact ⟨cell_alloc _ (cell_alloc _ hw1), cell_alloc _ (cell_alloc _ hw2)⟩ | exact ⟨(hb2.cell (p := ⟨b1, o1 + j, none⟩) hblt).trans hw1, (hb2.cell (p := ⟨b1, o1 + k, none⟩) hblt).trans hw2⟩)
                  (first
                    | (refine step_way (w := wr) ?_ (.tmp 38) (.tmp 48) ?_ w.heap.size (.slice (some ⟨g, 0, none⟩) (waysTo u j k).length cap) q (waysTo u j k) ?_ hown (two_below _ _ _) [u[j], u[k]] wr.heap.size (two_first _ _ _) (Nat.le_refl _) (wr.heap.size + 1) ?_ 2 ?_ (two_second _ _ _ _) (by omega) hsz ?_; rfl; rfl; rfl; rfl; rfl; intro g2 cap2 q2 w2 hwy2 hb2)
                    | fail)
                have HW2 : Hid (WaysW w2 w.heap.size (.slice (some ⟨g2, 0, none⟩) (waysTo u j (k + 1)).length cap2) q2 (waysTo u j (k + 1))) := Lib.hid (by rw [HE.out, List.length_append]; exact hwy2)
                have HB4 := Lib.hid (HB3.out.trans hb2)
                clear hwy2 hb2 hown hw1 hw2
                go_wp2
                go_roundw
                case rel => exact ⟨k + 1, g2, cap2, q2, by omega, by go_num, by rw [HE.out, List.length_append]; rfl, HW2, HB4.out⟩
                case measure => simp [intOf]; omega
            · obtain rfl : k = u.length := by omega
              clear hb
              go_wp2
              go_roundw
              case rel => exact ⟨j + 1, g, cap, q, by omega, by go_num, by rw [waysTo_next hlt], Lib.hid (by rw [waysTo_next hlt]; exact HW.out), HB3.out⟩
              case measure => simp [intOf]; omega
        · obtain rfl : j = u.length := by omega
          clear hb
          go_wp2
          go_ret
          exact ⟨g, cap, q, rfl, HW.out, HB2.out⟩
end Go.Proofs.YtgefgdkejenhnaaDoor
