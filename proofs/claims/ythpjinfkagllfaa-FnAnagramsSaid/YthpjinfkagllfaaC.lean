/- Contracts of the counts of tiles: countsOf, pile, sorted, less, without, and of the reference's sort and take. Conditions: the strings are of tiles, and short. -/
import Derived.Test.YthpjinfkagllfaaW
import Derived.Test.YthpjinfkagllfaaSb
import Derived.Test.YthpjinfkagllfaaSh
namespace Go.Proofs.Ythpjinfkagllfaa
open Go.RowKit

/-- The cells of counts. -/
def cs (f : Nat → Int) : Array Value := ((List.range 27).map fun k => Value.int .i64 (f k)).toArray
theorem cs_size (f : Nat → Int) : (cs f).size = 27 := by simp [cs]
theorem cs_get (f : Nat → Int) (k : Nat) (h : k < 27) : (cs f)[k]? = some (.int .i64 (f k)) := by simp [cs, h]
theorem cs_zero : cs (fun _ => 0) = #[.int .i64 0, .int .i64 0, .int .i64 0, .int .i64 0, .int .i64 0, .int .i64 0, .int .i64 0, .int .i64 0, .int .i64 0, .int .i64 0, .int .i64 0, .int .i64 0, .int .i64 0, .int .i64 0, .int .i64 0, .int .i64 0, .int .i64 0, .int .i64 0, .int .i64 0, .int .i64 0, .int .i64 0, .int .i64 0, .int .i64 0, .int .i64 0, .int .i64 0, .int .i64 0, .int .i64 0] := rfl
theorem cs_one (f : Nat → Int) : (cs f).all (·.oneCell') = true := by
  rw [Array.all_eq_true]; intro i hi
  have : (cs f)[i]? = some (.int .i64 (f i)) := cs_get f i (by rwa [cs_size] at hi)
  rw [Array.getElem?_eq_getElem hi] at this
  rw [Option.some.inj this]; rfl
theorem cs_set (f : Nat → Int) (p : Nat) (n : Int) (_hp : p < 27) : (cs f).setIfInBounds p (.int .i64 n) = cs (upd f p n) := by
  apply Array.ext_getElem?
  intro i
  rw [Array.getElem?_setIfInBounds]
  by_cases hi : i < 27
  · rw [cs_get _ i hi, cs_get _ i hi, cs_size]
    by_cases h : p = i
    · subst h; simp [upd, hi]
    · simp [upd, h, Ne.symm h]
  · rw [Array.getElem?_eq_none (by rw [cs_size]; omega), Array.getElem?_eq_none (by rw [cs_size]; omega)]
    simp; omega

theorem below_setRow {B : Nat} {a w : World} (h : Below B a w) {g : Nat} (hg : B ≤ g) (c : Array Value) : Below B a (w.setRow g c) :=
  h.trans ⟨rfl, rfl, rfl, by simp [World.setRow], fun k hk => setRow_other w g k c (by omega)⟩

theorem infoCounts : (Try.prog.info? 53).map (·.size) = some 27 := by kernel_rfl
theorem all_get {f : UInt8 → Bool} {s : ByteArray} (h : s.data.toList.all f = true) (k : Nat) (hk : k < s.size) : f s[k] = true := by
  rw [List.all_eq_true] at h
  exact h _ (by simp [ByteArray.getElem_eq_getElem_data])

set_option maxHeartbeats 400000 in
theorem countsOf_any (s : ByteArray) (w : World) (hs : s.size ≤ 1048576) (ht : tileAll s.data.toList = true) :
    Calls Try.prog 39 #[.string s] w fun e w' => e = .returned (.agg (cs (cntOf s.data.toList))) ∧ Below w.heap.size w w' := by
  have Ht := Lib.hid ht; clear ht
  go_enter Try.func39, Try.ntmps39
  go_wp2
  rw [← cs_zero]
  go_loopw [4] (fun i wr => ∃ k : Nat, k ≤ s.size ∧ i = .int .i64 k ∧ wr.heap[w.heap.size + 1]? = some (.cells (cs (cntOf (s.data.toList.take k))) 53 (0, 0)) ∧
      wr.heap[w.heap.size]? = some (.cells (cs (fun _ => 0)) 53 (0, 0)) ∧ Below w.heap.size w wr) (fun i _ => s.size - (intOf i).toNat)
  case atStart => exact ⟨0, Nat.zero_le _, rfl, by rw [List.take_zero, cntOf_nil]; exact heap_alloc2_new w _ _, heap_alloc2_old w _ _, ((Below.refl _ _).alloc (Nat.le_refl _) _).alloc (by simp) _⟩
  case round =>
    obtain ⟨k, hk, rfl, h1, h2, hb⟩ := hrel
    by_cases hlt : k < s.size
    · obtain ⟨p, hp, hp27⟩ := placeI_nat (all_get Ht.out k hlt)
      have hle := cntOf_le (s.data.toList.take k) p
      have hlen : (s.data.toList.take k).length ≤ k := List.length_take_le _ _
      obtain ⟨hle1, hle2⟩ := hle
      have hcell : wr.cell? ⟨w.heap.size + 1, p, none⟩ = some (.int .i64 (cntOf (s.data.toList.take k) p)) := by
        rw [cell_of_row wr _ p _ _ _ h1, cs_get _ p hp27]
      have hfr : wr.frozen? ⟨w.heap.size + 1, p, none⟩ = false := frozen_of_row wr _ p _ _ h1
      have Hp := Lib.hid hp; clear hp
      go_wp2_with fail
      refine (place_any _ _ (byte_range _).1 (byte_range _).2).mono ?_
      rintro e w' ⟨rfl, rfl⟩
      rw [Hp.out]
      go_wp2
      go_roundw
      case rel => exact ⟨k + 1, by omega, by go_num, by rw [heap_setCell_same _ _ _ _ _ _ h1, cs_set _ _ _ hp27, take_snoc s k hlt, cntOf_snoc _ _ p Hp.out], by rw [heap_setCell_other _ _ _ _ (by simp)]; exact h2, hb.setCell (p := ⟨w.heap.size + 1, p, none⟩) (by simp) _⟩
      case measure => simp [intOf]; omega
    · go_wp2_with (first
        | (refine wpList_load_row rfl 53 _ rfl (w.heap.size + 1) rfl _ _ _ _ h1 Try.underlying53 rfl (by rw [cs_size]; exact infoCounts) ?_)
        | (refine wpList_store_row rfl 53 _ _ rfl w.heap.size _ rfl rfl _ _ h2 (by rw [cs_size]; exact infoCounts) (by rw [cs_size, cs_size]) (cs_one _) ?_))
      obtain rfl : k = s.size := by omega
      rw [take_all] at h1 ⊢
      exact bodyPost_ret (v := .agg (cs (cntOf s.data.toList))) (results_cell_row (p := 2) (ty := 53) rfl _ _ w.heap.size _ _ _ _ rfl (setRow_heap _ _ _ _ _ _ h2) Try.underlying53 rfl (by rw [cs_size]; exact infoCounts)) rfl
        ⟨rfl, below_setRow hb (Nat.le_refl _) _⟩

theorem tileAt_any (k : Nat) (hk : k < 27) (w : World) :
    Calls Try.prog 79 #[.int .i64 k] w fun e w' => e = .returned (.int .u8 (tileB k).toNat) ∧ w = w' := by
  by_cases h : k = 0
  · subst h
    go_enter Try.func79, Try.ntmps79
    go_wp2
    go_ret
    exact ⟨ret_int rfl, rfl⟩
  · have h' : ((k : Int) == 0) = false := by simpa using h
    go_enter Try.func79, Try.ntmps79
    go_wp2
    go_ret
    exact ⟨ret_int (by rw [tileB, if_neg h]; simp; omega), rfl⟩

theorem sizeInt : Try.prog.info? 3 ≠ none := by
  intro h
  have : (Try.prog.info? 3).isSome = true := by kernel_rfl
  rw [h] at this; simp at this
theorem run_index_cs (f : Nat → Int) (k : Nat) (hk : k < 27) (w : World) : (Instr.index 53 (.agg (cs f)) (.int .i64 k)).run Try.prog w = .ok (.int .i64 (f k)) w := by
  have h1 : ((0 : Int) ≤ (k : Int) ∧ (k : Int) < ((27 : Nat) : Int)) := by omega
  have h2 := cs_get f k hk
  unfold Instr.index
  simp only [asIntOf, Sem.run_bind, Sem.run_pure, Result.andThen_ok, run_underlying Try.underlying53]
  rw [if_pos h1]
  simp [go_sem, part, h2]

set_option maxHeartbeats 400000 in
theorem pile_any (f : Nat → Int) (w : World) (hf : ∀ j, j < 27 → f j ≤ 2097152) :
    Calls Try.prog 86 #[.agg (cs f)] w fun e w' => e = .returned (.string ⟨(pileOf f).toArray⟩) ∧ Below w.heap.size w w' := by
  go_enter Try.func86, Try.ntmps86
  go_wp2_with (refine wpList_load_row rfl 53 _ rfl w.heap.size rfl _ (cs f) (0, 0) _ (heap_alloc2_old w _ _) Try.underlying53 rfl (by rw [cs_size]; exact infoCounts) ?_)
  go_loopw [4, 5, 7] (fun _ _ i wr => ∃ k : Nat, k ≤ 27 ∧ i = .int .i64 k ∧ IsB w.heap.size (w.heap.size + 1) (pileTo f k) wr ∧ Below w.heap.size w wr) (fun _ _ i _ => 27 - (intOf i).toNat)
  case atStart => exact ⟨0, Nat.zero_le _, rfl, by have := IsB.fresh (w.alloc (.cells (cs f) 53)) w.heap.size (by simp); simpa [pileTo] using this, ((Below.refl _ _).alloc (Nat.le_refl _) _).alloc (by simp) _⟩
  case round =>
    obtain ⟨k, hk, rfl, hB, hb⟩ := hrel
    by_cases hlt : k < 27
    · have hd : decide ((k : Int) < 27) = true := by simp; omega
      have hidx := run_index_cs f k hlt
      have hfk := hf k hlt
      have hpl := pileTo_len f k (fun j hj => hf j (by omega))
      go_wp2
      obtain ⟨wo, rfl⟩ : ∃ wo : World, wo = wr := ⟨_, rfl⟩
      go_loopw [5] (fun n wr => ∃ j : Nat, j ≤ (f k).toNat ∧ n = .int .i64 (f k - j) ∧ IsB w.heap.size (w.heap.size + 1) (pileTo f k ++ List.replicate j (tileB k)) wr ∧ Below w.heap.size w wr) (fun n _ => (intOf n).toNat)
      case atStart => exact ⟨0, Nat.zero_le _, by go_num, by simpa using hB, hb⟩
      case round =>
        obtain ⟨j, hj, rfl, hB1, hb1⟩ := hrel
        by_cases hjl : j < (f k).toNat
        · have hj0 : (j : Int) < f k := by omega
          have hj1 : 0 < f k - (j : Int) := by omega
          clear hidx
          have HB := Lib.hid hB; clear hB
          go_wp2_with fail
          refine (tileAt_any k hlt _).mono ?_
          rintro e w1 ⟨rfl, rfl⟩
          go_wp2_with fail
          refine (writeByte_any w.heap.size (w.heap.size + 1) _ _ _ hB1 (by simp; omega) hb1.size).mono ?_
          rintro e w2 ⟨rfl, hB2, hb2⟩
          go_wp2
          go_roundw
          case rel => exact ⟨j + 1, by omega, by go_num, by rw [List.replicate_succ', ← List.append_assoc]; exact hB2, hb1.trans hb2⟩
          case measure => simp [intOf]; omega
        · have hj0 : f k - (j : Int) ≤ 0 := by omega
          have hjj : j = (f k).toNat := by omega
          have Hjj := Lib.hid hjj; clear hjj hidx hjl
          go_wp2
          go_roundw
          case rel => exact ⟨k + 1, by omega, by go_num, by rw [pileTo_succ, ← Hjj.out]; exact hB1, hb1⟩
          case measure => simp [intOf]; omega
    · obtain rfl : k = 27 := by omega
      go_wp2_with fail
      refine (Try.Builder_String_any w.heap.size (w.heap.size + 1) _ _ hB hb.size).mono ?_
      rintro e w2 ⟨rfl, hb2⟩
      go_wp2
      go_ret
      exact ⟨rfl, hb.trans hb2⟩

theorem sorted_any (s : ByteArray) (w : World) (hs : s.size ≤ 1048576) (ht : tileAll s.data.toList = true) :
    Calls Try.prog 56 #[.string s] w fun e w' => e = .returned (.string ⟨(pileOf (cntOf s.data.toList)).toArray⟩) ∧ Below w.heap.size w w' := by
  have Ht := Lib.hid ht; clear ht
  go_enter Try.func56, Try.ntmps56
  go_wp2_with fail
  refine (countsOf_any _ _ hs Ht.out).mono ?_
  rintro e w1 ⟨rfl, hb1⟩
  go_wp2_with fail
  refine (pile_any _ _ (fun j _ => ?_)).mono ?_
  · have := (cntOf_le s.data.toList j).2; simp at this; omega
  rintro e w2 ⟨rfl, hb2⟩
  go_wp2
  go_ret
  exact ⟨rfl, hb1.trans (hb2.mono hb1.size)⟩

/-- Counts less others, up to a place. -/
def subTo (f g : Nat → Int) (k : Nat) : Nat → Int := fun j => if j < k then f j - g j else f j
theorem subTo_succ (f g : Nat → Int) (k : Nat) : upd (subTo f g k) k (f k - g k) = subTo f g (k + 1) := by
  funext j
  unfold upd subTo
  by_cases h : j = k
  · subst h; simp
  · rw [if_neg h]
    by_cases h2 : j < k
    · rw [if_pos h2, if_pos (by omega)]
    · rw [if_neg h2, if_neg (by omega)]
theorem subTo_zero (f g : Nat → Int) : subTo f g 0 = f := by funext j; simp [subTo]
theorem cs_congr {f g : Nat → Int} (h : ∀ k, k < 27 → f k = g k) : cs f = cs g := by
  unfold cs
  congr 1
  exact List.map_congr_left fun k hk => by rw [h k (by simpa using hk)]
theorem subTo_all (f g : Nat → Int) : cs (subTo f g 27) = cs (subC f g) := cs_congr fun k hk => by simp [subTo, subC, hk]

/-- What 'less' comes to. -/
def LessPost (f g : Nat → Int) (w : World) (e : Ending) (w' : World) : Prop :=
  ((geTo f g 27 ∧ e = .returned (.tuple #[.agg (cs (subC f g)), .bool true])) ∨ (¬ geTo f g 27 ∧ e = .returned (.tuple #[.agg (cs fun _ => 0), .bool false]))) ∧ Below w.heap.size w w'

set_option maxHeartbeats 1000000 in
theorem less_any (f g : Nat → Int) (w : World) (hf : ∀ j, 0 ≤ f j ∧ f j ≤ 2097152) (hg : ∀ j, 0 ≤ g j ∧ g j ≤ 2097152) :
    Calls Try.prog 85 #[.agg (cs f), .agg (cs g)] w (LessPost f g w) := by
  go_enter Try.func85, Try.ntmps85
  go_wp2_with (refine wpList_load_row rfl 53 _ rfl (w.heap.size + 1) rfl 53 (cs g) (0, 0) _ (heap3_1 w _ _ _) Try.underlying53 rfl (by rw [cs_size]; exact infoCounts) ?_)
  rw [← cs_zero]
  go_loopw [5, 6, 7, 9] (fun r _ _ i wr => ∃ k : Nat, k ≤ 27 ∧ r = .bool false ∧ i = .int .i64 k ∧ geTo f g k ∧ wr.heap[w.heap.size]? = some (.cells (cs (subTo f g k)) 53 (0, 0)) ∧
      wr.heap[w.heap.size + 1 + 1]? = some (.cells (cs fun _ => 0) 53 (0, 0)) ∧ Below w.heap.size w wr) (fun _ _ _ i _ => 27 - (intOf i).toNat)
  case atStart => exact ⟨0, Nat.zero_le _, rfl, rfl, fun p hp => by omega, by rw [subTo_zero]; exact heap3_0 w _ _ _, heap3_2 w _ _ _, (((Below.refl _ _).alloc (Nat.le_refl _) _).alloc (by simp) _).alloc (by simp; omega) _⟩
  case round =>
    obtain ⟨k, hk, rfl, rfl, hge, h1, h2, hb⟩ := hrel
    have Hge := Lib.hid hge; clear hge
    by_cases hlt : k < 27
    · have hd : decide ((k : Int) < 27) = true := by simp; omega
      have hidx := run_index_cs g k hlt
      have hcell : wr.cell? ⟨w.heap.size, k, none⟩ = some (.int .i64 (f k)) := by
        rw [cell_of_row wr _ k _ _ _ h1, cs_get _ k hlt]; simp [subTo]
      have hfr : wr.frozen? ⟨w.heap.size, k, none⟩ = false := frozen_of_row wr _ k _ _ h1
      obtain ⟨hf0, hf1⟩ := hf k
      obtain ⟨hg0, hg1⟩ := hg k
      have Hf := Lib.hid hf; clear hf
      have Hg := Lib.hid hg; clear hg
      have hset : (wr.setCell ⟨w.heap.size, k, none⟩ (.int .i64 (f k - g k))).heap[w.heap.size]? = some (.cells (cs (subTo f g (k + 1))) 53 (0, 0)) := by
        rw [heap_setCell_same _ _ _ _ _ _ h1, cs_set _ _ _ hlt, subTo_succ]
      have hset2 : (wr.setCell ⟨w.heap.size, k, none⟩ (.int .i64 (f k - g k))).heap[w.heap.size + 1 + 1]? = some (.cells (cs fun _ => 0) 53 (0, 0)) := by
        rw [heap_setCell_other _ _ _ _ (by simp; omega)]; exact h2
      have hset3 : (wr.setCell ⟨w.heap.size, k, none⟩ (.int .i64 (f k - g k))).cell? ⟨w.heap.size, k, none⟩ = some (.int .i64 (f k - g k)) := by
        rw [cell_of_row _ _ k _ _ _ hset, cs_get _ k hlt]; simp [subTo]
      have Hset := Lib.hid hset; have Hset2 := Lib.hid hset2
      clear hset hset2 h1 h2
      by_cases hle : g k ≤ f k
      · have hn : ¬ (f k - g k < 0) := by omega
        go_wp2
        go_roundw
        case rel => exact ⟨k + 1, by omega, rfl, by go_num, fun p hp => by rcases Nat.lt_succ_iff_lt_or_eq.1 hp with h | rfl; exact Hge.out p h; exact hle, Hset.out, Hset2.out, hb.setCell (p := ⟨w.heap.size, k, none⟩) (Nat.le_refl _) _⟩
        case measure => simp [intOf]; omega
      · have hn : f k - g k < 0 := by omega
        go_wp2_with (refine wpList_store_row rfl 53 _ _ rfl (w.heap.size + 1 + 1) (cs fun _ => 0) rfl rfl _ _ Hset2.out (by rw [cs_size]; exact infoCounts) (by rw [cs_size]) (cs_one _) ?_)
        have hz := setRow_heap _ (w.heap.size + 1 + 1) _ (cs fun _ => 0) _ _ Hset2.out
        refine bodyPost_ret (v := .tuple #[.agg (cs fun _ => 0), .bool false]) ?_ rfl ⟨.inr ⟨fun h => ?_, rfl⟩, ?_⟩
        · simp [results, Try.results85, asAddr, run_loadVar_row _ _ _ _ _ _ _ hz Try.underlying53 rfl (by rw [cs_size]; exact infoCounts)]
        · have := h k hlt; omega
        · exact below_setRow (hb.setCell (p := ⟨w.heap.size, k, none⟩) (Nat.le_refl _) _) (by omega) _
    · obtain rfl : k = 27 := by omega
      go_wp2_with (first
        | (refine wpList_load_row rfl 53 _ rfl w.heap.size rfl _ _ _ _ h1 Try.underlying53 rfl (by rw [cs_size]; exact infoCounts) ?_)
        | (refine wpList_store_row rfl 53 _ _ rfl (w.heap.size + 1 + 1) _ rfl rfl _ _ h2 (by rw [cs_size]; exact infoCounts) (by rw [cs_size, cs_size]) (cs_one _) ?_))
      have hz := setRow_heap _ (w.heap.size + 1 + 1) _ (cs (subTo f g 27)) _ _ h2
      rw [subTo_all] at hz ⊢
      refine bodyPost_ret (v := .tuple #[.agg (cs (subC f g)), .bool true]) ?_ rfl ⟨.inl ⟨Hge.out, rfl⟩, ?_⟩
      · simp [results, Try.results85, asAddr, run_loadVar_row _ _ _ _ _ _ _ hz Try.underlying53 rfl (by rw [cs_size]; exact infoCounts)]
      · exact below_setRow hb (by omega) _
end Go.Proofs.Ythpjinfkagllfaa
