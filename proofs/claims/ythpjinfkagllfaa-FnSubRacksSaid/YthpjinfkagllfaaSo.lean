/- sort.SliceStable on a list that is sorted already: nothing turns. Condition: at most 2^20 elements. -/
import Derived.Test.YthpjinfkagllfaaSx
import Derived.Laws.EntriesVeiled
set_option linter.unusedSimpArgs false
namespace Go.Proofs.Ythpjinfkagllfaa
open Go.RowKit
attribute [local irreducible] Calls
/-- The comparison, and the pair that the sort takes. -/
def lessF (ob : Nat) : Value := .func (.func 47) #[] #[.pointer (some ⟨ob, 0, none⟩)]
/-- No element is less than one ahead of it, in each world to come. -/
def LessNo (ob n : Nat) (W : World) : Prop := ∀ (i j : Nat) (x y : Int) (w : World), x = (i : Int) → y = (j : Int) → j < i → i < n → Below W.heap.size W w →
  Calls Try.prog 47 #[.int .i64 x, .int .i64 y, .pointer (some ⟨ob, 0, none⟩)] w fun e w' => e = .returned (.bool false) ∧ Below w.heap.size w w'
theorem LessNo.below {ob n : Nat} {W W' : World} (h : LessNo ob n W) (hb : Below W.heap.size W W') : LessNo ob n W' := fun i j x y w hx hy h1 h2 h3 => h i j x y w hx hy h1 h2 (hb.trans (h3.mono hb.size))
set_option maxHeartbeats 4000000 in
theorem less2_any (B ob : Nat) (yv : Value) (l : List ByteArray) (i j : Nat) (w : World) (ho : w.heap[ob]? = some (.cells #[yv] 22 (0, 0))) (hown : OwnS w B yv l) (hi : i < l.length) (hj : j < l.length) (hl : ∀ s ∈ l, s.size ≤ maxLen) :
    Calls Try.prog 47 #[.int .i64 (i : Int), .int .i64 (j : Int), .pointer (some ⟨ob, 0, none⟩)] w fun e w' => e = .returned (.bool (decide ((l[i].size : Int) < (l[j].size : Int)))) ∧ Below w.heap.size w w' := by
  obtain ⟨c1, z1⟩ := src_cell (i := 0) (v := yv) ho rfl
  obtain ⟨g, cap, rfl⟩ : ∃ g cap, yv = .slice (some ⟨g, 0, none⟩) l.length cap := by
    rcases hown.2 with ⟨_, h0⟩ | ⟨g, cap, cur, hv, _⟩
    · omega
    · exact ⟨g, cap, hv⟩
  have hc : ∀ k (hk : k < l.length), w.cell? ⟨g, k, none⟩ = some (.string l[k]) := fun k hk => by
    have := World.ownsRow.cellAt hown k (by omega)
    rw [this, List.getElem?_map, List.getElem?_eq_getElem hk]; rfl
  have hci := hc i hi
  have hcj := hc j hj
  have hsi := hl _ (List.getElem_mem hi)
  have hsj := hl _ (List.getElem_mem hj)
  have h1 : (0 : Int) ≤ (i : Int) := by omega
  have h2 : (i : Int) < (l.length : Int) := by omega
  have h3 : (0 : Int) ≤ (j : Int) := by omega
  have h4 : (j : Int) < (l.length : Int) := by omega
  obtain ⟨si, hsi0⟩ : ∃ si, si = l[i] := ⟨_, rfl⟩
  obtain ⟨sj, hsj0⟩ : ∃ sj, sj = l[j] := ⟨_, rfl⟩
  rw [← hsi0] at hci hsi ⊢
  rw [← hsj0] at hcj hsj ⊢
  clear ho hown hc hl hsi0 hsj0 hi hj
  go_enter Try.func47, Try.ntmps47
  go_wp2_with fail
  go_quiet (fail)
  go_wp2
  go_ret
  exact ⟨ret_bool (by simp), below_drewN (Below.refl _ _) _⟩
set_option maxHeartbeats 4000000 in
theorem ins_any (ob n a b : Nat) (sf : Value) (w : World) (hn : n ≤ 1048576) (hab : a ≤ b) (hb : b ≤ n) (hL : LessNo ob n w) :
    Calls Try.prog 102 #[.agg #[lessF ob, sf], .int .i64 (a : Int), .int .i64 (b : Int)] w fun e w' => e = .returned (.tuple #[]) ∧ Below w.heap.size w w' := by
  have hbl : Below w.heap.size w (w.alloc (.cells #[lessF ob, sf] 95)) := (Below.refl _ _).alloc (Nat.le_refl _) _
  have HL := Lib.hid (hL.below hbl)
  have Hbl := Lib.hid hbl
  obtain ⟨W, hW⟩ : ∃ W, W = w.alloc (.cells #[lessF ob, sf] 95) := ⟨_, rfl⟩
  have hbox : W.heap[w.heap.size]? = some (.cells #[lessF ob, sf] 95 (0, 0)) := by rw [hW]; exact heap_alloc_new w _
  have Hbox := Lib.hid hbox
  rw [← hW] at HL Hbl
  clear hbl hL hbox
  unfold lessF at hW ⊢
  go_enter Try.func102, Try.ntmps102
  go_wp2
  rw [← hW]
  clear hW
  go_loopw [6] (fun i wr => ∃ q : Nat, a ≤ q ∧ q ≤ b ∧ i = .int .i64 ((q : Int) + 1) ∧ Below W.heap.size W wr) (fun i _ => b + 1 - (intOf i).toNat)
  case atStart => exact ⟨a, by omega, by omega, rfl, Below.refl _ _⟩
  case round =>
    obtain ⟨q, hk1, hk2, rfl, hb1⟩ := hrel
    have Hb1 := Lib.hid hb1
    have hw : IntKind.i64.wrap ((q : Int) + 1 + 1) = (q : Int) + 1 + 1 := IntWalk.i64_in _ (by omega)
    by_cases hlt : q + 1 < b
    · have hltI : (q : Int) + 1 < (b : Int) := by omega
      have hgt : (a : Int) < (q : Int) + 1 := by omega
      obtain ⟨c1, z1⟩ := src_cell (i := 0) (v := lessF ob) ((hb1.block _ (lt_of_heap Hbox.out)).trans Hbox.out) rfl
      unfold lessF at c1
      clear hb1
      go_wp2
      refine wp_loop_rounds 1 ?_
      rw [rounds_succ]
      go_wp2_with fail
      refine (HL.out (q + 1) q _ _ wr rfl rfl (by omega) (by omega) Hb1.out).mono ?_
      rintro e w2 ⟨rfl, hb2⟩
      have Hb2 := Lib.hid (Hb1.out.trans (hb2.mono Hb1.out.size))
      go_wp2
      go_roundw
      case rel => exact ⟨q + 1, by omega, by omega, by go_num, Hb2.out⟩
      case measure => simp [intOf]; omega
    · have hltI : ¬ (q : Int) + 1 < (b : Int) := by omega
      go_wp2
      go_end0
      exact ⟨rfl, Hbl.out.trans (Hb1.out.mono Hbl.out.size)⟩
end Go.Proofs.Ythpjinfkagllfaa
