/- The merge of a sorted list: nothing turns. -/
import Derived.Test.YthpjinfkagllfaaSo
set_option linter.unusedSimpArgs false
namespace Go.Proofs.Ythpjinfkagllfaa
open Go.RowKit
attribute [local irreducible] Calls
set_option maxHeartbeats 8000000 in
set_option maxRecDepth 20000 in
theorem merge_any (ob n : Nat) (sf : Value) (hn : n ≤ 1048576) : ∀ (d a m b : Nat) (w : World), b - a ≤ d → a < m → m < b → b ≤ n → LessNo ob n w →
    Calls Try.prog 103 #[.agg #[lessF ob, sf], .int .i64 (a : Int), .int .i64 (m : Int), .int .i64 (b : Int)] w fun e w' => e = .returned (.tuple #[]) ∧ Below w.heap.size w w' := by
  intro d
  induction d with
  | zero => intro a m b w h1 h2 h3; omega
  | succ d ih =>
    intro a m b w hd ham hmb hbn hL
    have Ih := Lib.hid ih
    have hbl : Below w.heap.size w (w.alloc (.cells #[lessF ob, sf] 95)) := (Below.refl _ _).alloc (Nat.le_refl _) _
    have HL := Lib.hid (hL.below hbl)
    have Hbl := Lib.hid hbl
    obtain ⟨W, hW⟩ : ∃ W, W = w.alloc (.cells #[lessF ob, sf] 95) := ⟨_, rfl⟩
    have hbox : W.heap[w.heap.size]? = some (.cells #[lessF ob, sf] 95 (0, 0)) := by rw [hW]; exact heap_alloc_new w _
    have Hbox := Lib.hid hbox
    rw [← hW] at HL Hbl
    clear hbl hL hbox ih
    unfold lessF at hW ⊢
    by_cases h1 : m = a + 1
    · have hs : ((m : Int) - (a : Int) == 1) = true := by rw [beq_iff_eq]; omega
      have hno : ¬ (a : Int) < (m : Int) - 1 := by omega
      have Hh1 := Lib.hid h1
      clear h1
      go_enter Try.func103, Try.ntmps103
      go_wp2
      rw [← hW]
      clear hW
      go_loopw [8, 9] (fun i j wr => i = .int .i64 (m : Int) ∧ ∃ k : Nat, m ≤ k ∧ k ≤ b ∧ j = .int .i64 (k : Int) ∧ Below W.heap.size W wr) (fun _ j _ => (intOf j).toNat)
      case atStart => exact ⟨rfl, b, by omega, by omega, rfl, Below.refl _ _⟩
      case round =>
        obtain ⟨rfl, k, hk1, hk2, rfl, hb1⟩ := hrel
        have Hb1 := Lib.hid hb1
        obtain ⟨c1, z1⟩ := src_cell (i := 0) (v := lessF ob) ((hb1.block _ (lt_of_heap Hbox.out)).trans Hbox.out) rfl
        obtain ⟨c2, z2⟩ := src_cell (i := 1) (v := sf) ((hb1.block _ (lt_of_heap Hbox.out)).trans Hbox.out) rfl
        unfold lessF at c1
        clear hb1
        by_cases hlt : m < k
        · have hltI : (m : Int) < (k : Int) := by omega
          go_wp2_with fail
          refine (HL.out ((m + k) / 2) a _ _ wr (by omega) rfl (by omega) (by omega) Hb1.out).mono ?_
          rintro e w2 ⟨rfl, hb2⟩
          have Hb2 := Lib.hid (Hb1.out.trans (hb2.mono Hb1.out.size))
          clear hb2
          go_wp2
          go_roundw
          case rel => exact ⟨rfl, (m + k) / 2, by omega, by omega, congrArg _ (by omega), Hb2.out⟩
          case measure => simp [intOf]; omega
        · have hltI : ¬ (m : Int) < (k : Int) := by omega
          obtain rfl : m = k := by omega
          go_wp2
          refine wp_loop_rounds 1 ?_
          rw [rounds_succ]
          go_wp2
          refine bodyPost_ret (results_none rfl _ _ _) rfl ?_
          exact ⟨rfl, Hbl.out.trans (Hb1.out.mono Hbl.out.size)⟩
    · have hs : ((m : Int) - (a : Int) == 1) = false := by rw [beq_eq_false_iff_ne]; omega
      by_cases h2 : b = m + 1
      · have hs2 : ((b : Int) - (m : Int) == 1) = true := by rw [beq_iff_eq]; omega
        clear h2
        go_enter Try.func103, Try.ntmps103
        go_wp2
        rw [← hW]
        clear hW
        go_loopw [12, 13] (fun i j wr => j = .int .i64 (m : Int) ∧ ∃ p : Nat, a ≤ p ∧ p ≤ m ∧ i = .int .i64 (p : Int) ∧ Below W.heap.size W wr) (fun i _ _ => m + 1 - (intOf i).toNat)
        case atStart => exact ⟨rfl, a, by omega, by omega, rfl, Below.refl _ _⟩
        case round =>
          obtain ⟨rfl, p, hk1, hk2, rfl, hb1⟩ := hrel
          have Hb1 := Lib.hid hb1
          obtain ⟨c1, z1⟩ := src_cell (i := 0) (v := lessF ob) ((hb1.block _ (lt_of_heap Hbox.out)).trans Hbox.out) rfl
          obtain ⟨c2, z2⟩ := src_cell (i := 1) (v := sf) ((hb1.block _ (lt_of_heap Hbox.out)).trans Hbox.out) rfl
          unfold lessF at c1
          clear hb1
          by_cases hlt : p < m
          · have hltI : (p : Int) < (m : Int) := by omega
            have hw : IntKind.i64.wrap (((p : Int) + (m : Int)) / 2 + 1) = ((p : Int) + (m : Int)) / 2 + 1 := IntWalk.i64_in _ (by omega)
            go_wp2_with fail
            refine (HL.out m ((p + m) / 2) _ _ wr rfl (by omega) (by omega) (by omega) Hb1.out).mono ?_
            rintro e w2 ⟨rfl, hb2⟩
            have Hb2 := Lib.hid (Hb1.out.trans (hb2.mono Hb1.out.size))
            clear hb2
            go_wp2
            go_roundw
            case rel => exact ⟨rfl, (p + m) / 2 + 1, by omega, by omega, congrArg _ (by omega), Hb2.out⟩
            case measure => simp [intOf]; omega
          · obtain rfl : m = p := by omega
            go_wp2
            refine wp_loop_rounds 1 ?_
            rw [rounds_succ]
            go_wp2
            refine bodyPost_ret (results_none rfl _ _ _) rfl ?_
            exact ⟨rfl, Hbl.out.trans (Hb1.out.mono Hbl.out.size)⟩
      · have hs2 : ((b : Int) - (m : Int) == 1) = false := by rw [beq_eq_false_iff_ne]; omega
        obtain ⟨mid, hmid⟩ : ∃ mid, mid = (a + b) / 2 := ⟨_, rfl⟩
        have hmidI : ((a : Int) + (b : Int)) / 2 = (mid : Int) := by omega
        have hm1 : 2 * mid ≤ a + b := by omega
        have hm2 : a + b < 2 * mid + 2 := by omega
        clear hmid
        by_cases hgt : mid < m
        · have hgtI : (mid : Int) < (m : Int) := by omega
          have he : (mid : Int) + (m : Int) - (mid : Int) = (m : Int) := by omega
          have hmbI : (m : Int) < (b : Int) := by omega
          have hwb : IntKind.i64.wrap ((mid : Int) + (m : Int) - (b : Int)) = (mid : Int) + (m : Int) - (b : Int) := IntWalk.i64_in _ (by omega)
          go_enter Try.func103, Try.ntmps103
          go_wp2
          rw [← hW]
          clear hW
          go_loopw [18, 19] (fun i j wr => ∃ s : Nat, (mid + m - b) ≤ s ∧ s ≤ mid ∧ i = .int .i64 (s : Int) ∧ j = .int .i64 ((mid : Nat) : Int) ∧ Below W.heap.size W wr) (fun i _ _ => mid + 1 - (intOf i).toNat)
          case atStart => exact ⟨(mid + m - b), by omega, by omega, congrArg _ (by omega), rfl, Below.refl _ _⟩
          case round =>
            obtain ⟨s, hk1, hk2, rfl, rfl, hb1⟩ := hrel
            have Hb1 := Lib.hid hb1
            obtain ⟨c1, z1⟩ := src_cell (i := 0) (v := lessF ob) ((hb1.block _ (lt_of_heap Hbox.out)).trans Hbox.out) rfl
            obtain ⟨c2, z2⟩ := src_cell (i := 1) (v := sf) ((hb1.block _ (lt_of_heap Hbox.out)).trans Hbox.out) rfl
            unfold lessF at c1
            clear hb1
            by_cases hlt : s < mid
            · have hltI : (s : Int) < (mid : Int) := by omega
              have hw : IntKind.i64.wrap (((s : Int) + (mid : Int)) / 2 + 1) = ((s : Int) + (mid : Int)) / 2 + 1 := IntWalk.i64_in _ (by omega)
              go_wp2_with fail
              refine (HL.out (mid + m - 1 - (s + mid) / 2) ((s + mid) / 2) _ _ wr (by omega) (by omega) (by omega) (by omega) Hb1.out).mono ?_
              rintro e w2 ⟨rfl, hb2⟩
              have Hb2 := Lib.hid (Hb1.out.trans (hb2.mono Hb1.out.size))
              clear hb2
              go_wp2
              go_roundw
              case rel => exact ⟨(s + mid) / 2 + 1, by omega, by omega, congrArg _ (by omega), rfl, Hb2.out⟩
              case measure => simp [intOf]; omega
            · obtain rfl : mid = s := by omega
              go_wp2_with fail
              refine (Ih.out mid m b wr (by omega) hgt hmb hbn (HL.out.below Hb1.out)).mono ?_
              rintro e w2 ⟨rfl, hb2⟩
              have Hb2 := Lib.hid (Hb1.out.trans (hb2.mono Hb1.out.size))
              clear hb2
              go_wp2
              go_end0
              exact ⟨rfl, Hbl.out.trans (Hb2.out.mono Hbl.out.size)⟩
        · have hgtI : ¬ (mid : Int) < (m : Int) := by omega
          have he : (mid : Int) + (m : Int) - (m : Int) = (mid : Int) := by omega
          have hamI : (a : Int) < (m : Int) := by omega
          go_enter Try.func103, Try.ntmps103
          go_wp2
          rw [← hW]
          clear hW
          go_loopw [18, 19] (fun i j wr => ∃ s : Nat, a ≤ s ∧ s ≤ m ∧ i = .int .i64 (s : Int) ∧ j = .int .i64 ((m : Nat) : Int) ∧ Below W.heap.size W wr) (fun i _ _ => m + 1 - (intOf i).toNat)
          case atStart => exact ⟨a, by omega, by omega, rfl, rfl, Below.refl _ _⟩
          case round =>
            obtain ⟨s, hk1, hk2, rfl, rfl, hb1⟩ := hrel
            have Hb1 := Lib.hid hb1
            obtain ⟨c1, z1⟩ := src_cell (i := 0) (v := lessF ob) ((hb1.block _ (lt_of_heap Hbox.out)).trans Hbox.out) rfl
            obtain ⟨c2, z2⟩ := src_cell (i := 1) (v := sf) ((hb1.block _ (lt_of_heap Hbox.out)).trans Hbox.out) rfl
            unfold lessF at c1
            clear hb1
            by_cases hlt : s < m
            · have hltI : (s : Int) < (m : Int) := by omega
              have hw : IntKind.i64.wrap (((s : Int) + (m : Int)) / 2 + 1) = ((s : Int) + (m : Int)) / 2 + 1 := IntWalk.i64_in _ (by omega)
              go_wp2_with fail
              refine (HL.out (mid + m - 1 - (s + m) / 2) ((s + m) / 2) _ _ wr (by omega) (by omega) (by omega) (by omega) Hb1.out).mono ?_
              rintro e w2 ⟨rfl, hb2⟩
              have Hb2 := Lib.hid (Hb1.out.trans (hb2.mono Hb1.out.size))
              clear hb2
              go_wp2
              go_roundw
              case rel => exact ⟨(s + m) / 2 + 1, by omega, by omega, congrArg _ (by omega), rfl, Hb2.out⟩
              case measure => simp [intOf]; omega
            · obtain rfl : m = s := by omega
              by_cases hmm : m < mid
              · have hmmI : (m : Int) < (mid : Int) := by omega
                go_wp2_with fail
                refine (Ih.out a m mid wr (by omega) ham hmm (by omega) (HL.out.below Hb1.out)).mono ?_
                rintro e w2 ⟨rfl, hb2⟩
                have Hb2 := Lib.hid (Hb1.out.trans (hb2.mono Hb1.out.size))
                clear hb2
                go_wp2
                go_end0
                exact ⟨rfl, Hbl.out.trans (Hb2.out.mono Hbl.out.size)⟩
              · have hmmI : ¬ (m : Int) < (mid : Int) := by omega
                go_wp2
                go_end0
                exact ⟨rfl, Hbl.out.trans (Hb1.out.mono Hbl.out.size)⟩
end Go.Proofs.Ythpjinfkagllfaa
