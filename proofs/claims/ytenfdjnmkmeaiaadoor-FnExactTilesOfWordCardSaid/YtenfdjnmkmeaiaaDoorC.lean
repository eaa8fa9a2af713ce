/- Contracts of the counts of tiles: countsOf, pile, sorted, less, without, and of the reference's sort and take. Conditions: the strings are of tiles, and short. -/
import Derived.Test.YtenfdjnmkmeaiaaDoorW
import Derived.Test.YtenfdjnmkmeaiaaDoorSb
import Derived.Test.YtenfdjnmkmeaiaaDoorSh
namespace Go.Proofs.YtenfdjnmkmeaiaaDoor
open Go.RowKit

/-- The cells of counts. -/
def cs (f : Nat → Int) : Array Value := ((List.range 27).map fun k => Value.int .i64 (f k)).toArray
theorem cs_size (f : Nat → Int) : (cs f).size = 27 := by simp [cs]
theorem cs_get (f : Nat → Int) (k : Nat) (h : k < 27) : (cs f)[k]? = some (.int .i64 (f k)) := by simp [cs, h]
theorem cs_zero : cs (fun _ => 0) = #[.int .i64 0, .int .i64 0, .int .i64 0, .int .i64 0, .int .i64 0, .int .i64 0, .int .i64 0, .int .i64 0, .int .i64 0, .int .i64 0, .int .i64 0, .int .i64 0, .int .i64 0, .int .i64 0, .int .i64 0, .int .i64 0, .int .i64 0, .int .i64 0, .int .i64 0, .int .i64 0, .int .i64 0, .int .i64 0, .int .i64 0, .int .i64 0, .int .i64 0, .int .i64 0, .int .i64 0] := rfl
theorem cs_one (f : Nat → Int) : (cs f).all (·.oneCell') = true := by
  rw [Array.all_eq_true]; intro i hi
  have : (cs f)[i]? = some (.int .i64 (f i)) := cs_get f i (by rwa [cs_size] at hi)
  rw [Array.getElem?_eq_getElem hi] at this
  rw [Option.some.inj this]; rfl
theorem cs_set (f : Nat → Int) (p : Nat) (n : Int) (_hp : p < 27) : (cs f).setIfInBounds p (.int .i64 n) = cs (upd f p n) := by
  apply Array.ext_getElem?
  intro i
  rw [Array.getElem?_setIfInBounds]
  by_cases hi : i < 27
  · rw [cs_get _ i hi, cs_get _ i hi, cs_size]
    by_cases h : p = i
    · subst h; simp [upd, hi]
    · simp [upd, h, Ne.symm h]
  · rw [Array.getElem?_eq_none (by rw [cs_size]; omega), Array.getElem?_eq_none (by rw [cs_size]; omega)]
    simp; omega

theorem below_setRow {B : Nat} {a w : World} (h : Below B a w) {g : Nat} (hg : B ≤ g) (c : Array Value) : Below B a (w.setRow g c) :=
  h.trans ⟨rfl, rfl, rfl, by simp [World.setRow], fun k hk => setRow_other w g k c (by omega)⟩

theorem infoCounts : (Tryd.prog.info? 28).map (·.size) = some 27 := by kernel_rfl
theorem all_get {f : UInt8 → Bool} {s : ByteArray} (h : s.data.toList.all f = true) (k : Nat) (hk : k < s.size) : f s[k] = true := by
  rw [List.all_eq_true] at h
  exact h _ (by simp [ByteArray.getElem_eq_getElem_data])

theorem tileAt_any (k : Nat) (hk : k < 27) (w : World) :
    Calls Tryd.prog 27 #[.int .i64 k] w fun e w' => e = .returned (.int .u8 (tileB k).toNat) ∧ w = w' := by
  by_cases h : k = 0
  · subst h
    go_enter Tryd.func27, Tryd.ntmps27
    go_wp2
    go_ret
    exact ⟨ret_int rfl, rfl⟩
  · have h' : ((k : Int) == 0) = false := by simpa using h
    go_enter Tryd.func27, Tryd.ntmps27
    go_wp2
    go_ret
    exact ⟨ret_int (by rw [tileB, if_neg h]; simp; omega), rfl⟩

theorem sizeInt : Tryd.prog.info? 3 ≠ none := by
  intro h
  have : (Tryd.prog.info? 3).isSome = true := by kernel_rfl
  rw [h] at this; simp at this
theorem run_index_cs (f : Nat → Int) (k : Nat) (hk : k < 27) (w : World) : (Instr.index 28 (.agg (cs f)) (.int .i64 k)).run Tryd.prog w = .ok (.int .i64 (f k)) w := by
  have h1 : ((0 : Int) ≤ (k : Int) ∧ (k : Int) < ((27 : Nat) : Int)) := by omega
  have h2 := cs_get f k hk
  unfold Instr.index
  simp only [asIntOf, Sem.run_bind, Sem.run_pure, Result.andThen_ok, run_underlying Tryd.underlying28]
  rw [if_pos h1]
  simp [go_sem, part, h2]

set_option maxHeartbeats 400000 in
theorem pile_any (f : Nat → Int) (w : World) (hf : ∀ j, j < 27 → f j ≤ 2097152) :
    Calls Tryd.prog 18 #[.agg (cs f)] w fun e w' => e = .returned (.string ⟨(pileOf f).toArray⟩) ∧ Below w.heap.size w w' := by
  go_enter Tryd.func18, Tryd.ntmps18
  go_wp2_with (refine wpList_load_row rfl 28 _ rfl w.heap.size rfl _ (cs f) (0, 0) _ (heap_alloc2_old w _ _) Tryd.underlying28 rfl (by rw [cs_size]; exact infoCounts) ?_)
  go_loopw [4, 5, 7] (fun _ _ i wr => ∃ k : Nat, k ≤ 27 ∧ i = .int .i64 k ∧ IsB w.heap.size (w.heap.size + 1) (pileTo f k) wr ∧ Below w.heap.size w wr) (fun _ _ i _ => 27 - (intOf i).toNat)
  case atStart => exact ⟨0, Nat.zero_le _, rfl, by have := IsB.fresh (w.alloc (.cells (cs f) 28)) w.heap.size (by simp); simpa [pileTo] using this, ((Below.refl _ _).alloc (Nat.le_refl _) _).alloc (by simp) _⟩
  case round =>
    obtain ⟨k, hk, rfl, hB, hb⟩ := hrel
    by_cases hlt : k < 27
    · have hd : decide ((k : Int) < 27) = true := by simp; omega
      have hidx := run_index_cs f k hlt
      have hfk := hf k hlt
      have hpl := pileTo_len f k (fun j hj => hf j (by omega))
      go_wp2
      obtain ⟨wo, rfl⟩ : ∃ wo : World, wo = wr := ⟨_, rfl⟩
      go_loopw [5] (fun n wr => ∃ j : Nat, j ≤ (f k).toNat ∧ n = .int .i64 (f k - j) ∧ IsB w.heap.size (w.heap.size + 1) (pileTo f k ++ List.replicate j (tileB k)) wr ∧ Below w.heap.size w wr) (fun n _ => (intOf n).toNat)
      case atStart => exact ⟨0, Nat.zero_le _, by go_num, by simpa using hB, hb⟩
      case round =>
        obtain ⟨j, hj, rfl, hB1, hb1⟩ := hrel
        by_cases hjl : j < (f k).toNat
        · have hj0 : (j : Int) < f k := by omega
          have hj1 : 0 < f k - (j : Int) := by omega
          clear hidx
          have HB := Lib.hid hB; clear hB
          go_wp2_with fail
          refine (tileAt_any k hlt _).mono ?_
          rintro e w1 ⟨rfl, rfl⟩
          go_wp2_with fail
          refine (writeByte_any w.heap.size (w.heap.size + 1) _ _ _ hB1 (by simp; omega) hb1.size).mono ?_
          rintro e w2 ⟨rfl, hB2, hb2⟩
          go_wp2
          go_roundw
          case rel => exact ⟨j + 1, by omega, by go_num, by rw [List.replicate_succ', ← List.append_assoc]; exact hB2, hb1.trans hb2⟩
          case measure => simp [intOf]; omega
        · have hj0 : f k - (j : Int) ≤ 0 := by omega
          have hjj : j = (f k).toNat := by omega
          have Hjj := Lib.hid hjj; clear hjj hidx hjl
          go_wp2
          go_roundw
          case rel => exact ⟨k + 1, by omega, by go_num, by rw [pileTo_succ, ← Hjj.out]; exact hB1, hb1⟩
          case measure => simp [intOf]; omega
    · obtain rfl : k = 27 := by omega
      go_wp2_with fail
      refine (Tryd.Builder_String_any w.heap.size (w.heap.size + 1) _ _ hB hb.size).mono ?_
      rintro e w2 ⟨rfl, hb2⟩
      go_wp2
      go_ret
      exact ⟨rfl, hb.trans hb2⟩


end Go.Proofs.YtenfdjnmkmeaiaaDoor
