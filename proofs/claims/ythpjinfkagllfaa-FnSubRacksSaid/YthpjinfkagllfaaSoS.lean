/- sort.stable_func on a sorted list: nothing turns. -/
import Derived.Test.YthpjinfkagllfaaSoM
set_option linter.unusedSimpArgs false
namespace Go.Proofs.Ythpjinfkagllfaa
open Go.RowKit
attribute [local irreducible] Calls
set_option maxHeartbeats 8000000 in
set_option maxRecDepth 20000 in
theorem stable_any (ob n : Nat) (sf : Value) (w : World) (hn : n ≤ 1048576) (hL : LessNo ob n w) :
    Calls Try.prog 82 #[.agg #[lessF ob, sf], .int .i64 (n : Int)] w fun e w' => e = .returned (.tuple #[]) ∧ Below w.heap.size w w' := by
  have hbl : Below w.heap.size w (w.alloc (.cells #[lessF ob, sf] 95)) := (Below.refl _ _).alloc (Nat.le_refl _) _
  have HL := Lib.hid (hL.below hbl)
  have Hbl := Lib.hid hbl
  obtain ⟨W, hW⟩ : ∃ W, W = w.alloc (.cells #[lessF ob, sf] 95) := ⟨_, rfl⟩
  have hbox : W.heap[w.heap.size]? = some (.cells #[lessF ob, sf] 95 (0, 0)) := by rw [hW]; exact heap_alloc_new w _
  have Hbox := Lib.hid hbox
  rw [← hW] at HL Hbl
  clear hbl hL hbox
  unfold lessF at hW ⊢
  go_enter Try.func82, Try.ntmps82
  go_wp2
  rw [← hW]
  clear hW
  go_loopw [5, 6] (fun i j wr => ∃ a : Nat, a ≤ n ∧ i = .int .i64 (a : Int) ∧ j = .int .i64 ((a : Int) + 20) ∧ Below W.heap.size W wr) (fun i _ _ => n + 1 - (intOf i).toNat)
  case atStart => exact ⟨0, by omega, rfl, rfl, Below.refl _ _⟩
  case round =>
    obtain ⟨a, ha, rfl, rfl, hb1⟩ := hrel
    have Hb1 := Lib.hid hb1
    obtain ⟨c1, z1⟩ := src_cell (i := 0) (v := lessF ob) ((hb1.block _ (lt_of_heap Hbox.out)).trans Hbox.out) rfl
    obtain ⟨c2, z2⟩ := src_cell (i := 1) (v := sf) ((hb1.block _ (lt_of_heap Hbox.out)).trans Hbox.out) rfl
    unfold lessF at c1
    clear hb1
    by_cases hlt : a + 20 ≤ n
    · have hltI : (a : Int) + 20 ≤ (n : Int) := by omega
      have hw : IntKind.i64.wrap ((a : Int) + 20 + 20) = (a : Int) + 20 + 20 := IntWalk.i64_in _ (by omega)
      go_wp2_with fail
      refine (ins_any ob n a (a + 20) sf wr hn (by omega) (by omega) (HL.out.below Hb1.out)).mono ?_
      rintro e w2 ⟨rfl, hb2⟩
      have Hb2 := Lib.hid (Hb1.out.trans (hb2.mono Hb1.out.size))
      clear hb2
      go_wp2
      go_roundw
      case rel => exact ⟨a + 20, by omega, by go_num, by go_num, Hb2.out⟩
      case measure => simp [intOf]; omega
    · have hltI : ¬ (a : Int) + 20 ≤ (n : Int) := by omega
      go_wp2_with fail
      refine (ins_any ob n a n sf wr hn (by omega) (by omega) (HL.out.below Hb1.out)).mono ?_
      rintro e w2 ⟨rfl, hb2⟩
      have Hb2 := Lib.hid (Hb1.out.trans (hb2.mono Hb1.out.size))
      clear hb2 c1 c2 hlt hltI
      go_wp2
      obtain ⟨wo, rfl⟩ : ∃ wo : World, wo = wr := ⟨_, rfl⟩
      go_loopw [4, 5, 6] (fun t i j wr => ∃ bs : Nat, 20 ≤ bs ∧ bs ≤ 2 * n + 40 ∧ t = .int .i64 (bs : Int) ∧ Below W.heap.size W wr) (fun t _ _ _ => n - (intOf t).toNat)
      case atStart => exact ⟨20, by omega, by omega, rfl, Hb2.out⟩
      case round =>
        obtain ⟨bs, hs1, hs2, rfl, hb3⟩ := hrel
        have Hb3 := Lib.hid hb3
        clear hb3
        by_cases hlt : bs < n
        · have hltI : (bs : Int) < (n : Int) := by omega
          have hw : IntKind.i64.wrap (2 * (bs : Int)) = 2 * (bs : Int) := IntWalk.i64_in _ (by omega)
          have hw2 : IntKind.i64.wrap ((bs : Int) * 2) = (bs : Int) * 2 := IntWalk.i64_in _ (by omega)
          go_wp2
          obtain ⟨wq, rfl⟩ : ∃ wq : World, wq = wr := ⟨_, rfl⟩
          go_loopw [5, 6] (fun i j wr => ∃ a : Nat, a ≤ n ∧ i = .int .i64 (a : Int) ∧ j = .int .i64 ((a : Int) + 2 * (bs : Int)) ∧ Below W.heap.size W wr) (fun i _ _ => n + 1 - (intOf i).toNat)
          case atStart => exact ⟨0, by omega, rfl, congrArg _ (by omega), Hb3.out⟩
          case round =>
            obtain ⟨a, ha, rfl, rfl, hb1⟩ := hrel
            have Hb1 := Lib.hid hb1
            obtain ⟨c1, z1⟩ := src_cell (i := 0) (v := lessF ob) ((hb1.block _ (lt_of_heap Hbox.out)).trans Hbox.out) rfl
            obtain ⟨c2, z2⟩ := src_cell (i := 1) (v := sf) ((hb1.block _ (lt_of_heap Hbox.out)).trans Hbox.out) rfl
            unfold lessF at c1
            clear hb1
            by_cases hl2 : a + 2 * bs ≤ n
            · have hl2I : (a : Int) + 2 * (bs : Int) ≤ (n : Int) := by omega
              have hw3 : IntKind.i64.wrap ((a : Int) + 2 * (bs : Int) + 2 * (bs : Int)) = (a : Int) + 2 * (bs : Int) + 2 * (bs : Int) := IntWalk.i64_in _ (by omega)
              have hw4 : IntKind.i64.wrap ((a : Int) + (bs : Int)) = (a : Int) + (bs : Int) := IntWalk.i64_in _ (by omega)
              go_wp2_with fail
              refine (merge_any ob n sf hn n a (a + bs) (a + 2 * bs) wr (by omega) (by omega) (by omega) (by omega) (HL.out.below Hb1.out)).mono ?_
              rintro e w2 ⟨rfl, hb2⟩
              have Hb2 := Lib.hid (Hb1.out.trans (hb2.mono Hb1.out.size))
              clear hb2
              go_wp2
              go_roundw
              case rel => exact ⟨a + 2 * bs, by omega, congrArg _ (by omega), congrArg _ (by omega), Hb2.out⟩
              case measure => simp [intOf]; omega
            · have hl2I : ¬ (a : Int) + 2 * (bs : Int) ≤ (n : Int) := by omega
              have hw4 : IntKind.i64.wrap ((a : Int) + (bs : Int)) = (a : Int) + (bs : Int) := IntWalk.i64_in _ (by omega)
              by_cases hm : a + bs < n
              · have hmI : (a : Int) + (bs : Int) < (n : Int) := by omega
                go_wp2_with fail
                refine (merge_any ob n sf hn n a (a + bs) n wr (by omega) (by omega) (by omega) (by omega) (HL.out.below Hb1.out)).mono ?_
                rintro e w2 ⟨rfl, hb2⟩
                have Hb2 := Lib.hid (Hb1.out.trans (hb2.mono Hb1.out.size))
                clear hb2
                go_wp2
                go_roundw
                case rel => exact ⟨bs * 2, by omega, by omega, congrArg _ (by omega), Hb2.out⟩
                case measure => simp [intOf]; omega
              · have hmI : ¬ (a : Int) + (bs : Int) < (n : Int) := by omega
                go_wp2
                go_roundw
                case rel => exact ⟨bs * 2, by omega, by omega, congrArg _ (by omega), Hb1.out⟩
                case measure => simp [intOf]; omega
        · have hltI : ¬ (bs : Int) < (n : Int) := by omega
          go_wp2
          go_end0
          exact ⟨rfl, Hbl.out.trans (Hb3.out.mono Hbl.out.size)⟩
end Go.Proofs.Ythpjinfkagllfaa
