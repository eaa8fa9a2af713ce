/- What the laws on lexicons call: l05Same, SameLexicon, increasing, l05Ok, ValidLexicon, of both sides. No condition but the readings. -/
import Derived.Test.YthpjinfkagllfaaL
import Derived.Test.YthpjinfkagllfaaW
import Derived.Test.YthpjinfkagllfaaSh
namespace Go.Proofs.Ythpjinfkagllfaa
open Go.RowKit

/-- The first k are strictly increasing. -/
def IncTo (l : List ByteArray) (k : Nat) : Prop := ∀ i, i + 1 < k → (h : i + 1 < l.length) → Op.bytesLess l[i].toList l[i + 1].toList = true
def incB (l : List ByteArray) : Bool := (List.range (l.length - 1)).all fun i => Op.bytesLess (l.getD i ByteArray.empty).toList (l.getD (i + 1) ByteArray.empty).toList
theorem incB_iff (l : List ByteArray) : incB l = true ↔ IncTo l l.length := by
  simp only [incB, List.all_eq_true, List.mem_range, IncTo]
  constructor
  · intro h i hi h2
    have h3 := h i (by omega)
    rwa [List.getD_eq_getElem?_getD, List.getD_eq_getElem?_getD, List.getElem?_eq_getElem (by omega), List.getElem?_eq_getElem h2] at h3
  · intro h i hi
    have h3 := h i (by omega) (by omega)
    rwa [List.getD_eq_getElem?_getD, List.getD_eq_getElem?_getD, List.getElem?_eq_getElem (by omega), List.getElem?_eq_getElem (show i + 1 < l.length by omega)]
theorem IncTo.succ {l : List ByteArray} {j : Nat} (h : IncTo l (j + 1)) (hj : j + 1 < l.length) (hd : Op.bytesLess l[j].toList l[j + 1].toList = true) : IncTo l (j + 1 + 1) := by
  intro i hi h2
  by_cases he : i = j
  · subst he; exact hd
  · exact h i (by omega) h2
/-- What a valid lexicon is. -/
def lexB (l : List ByteArray) : Bool := decide (l.length ≤ 200) && incB l && l.all isLong
theorem lexB_len {l : List ByteArray} (h : lexB l = true) : l.length ≤ 200 := by simp [lexB] at h; exact h.1.1
theorem lexB_inc {l : List ByteArray} (h : lexB l = true) : IncTo l l.length := by simp only [lexB, Bool.and_eq_true] at h; exact (incB_iff l).1 h.1.2
theorem lexB_long {l : List ByteArray} (h : lexB l = true) : ∀ s ∈ l, isLong s = true := by simp only [lexB, Bool.and_eq_true, List.all_eq_true] at h; exact h.2
theorem lexB_false_of_inc {l : List ByteArray} {j : Nat} (hj : j + 1 < l.length) (hd : Op.bytesLess l[j].toList l[j + 1].toList = false) : incB l = false := by
  cases h : incB l
  · rfl
  · rw [(incB_iff l).1 h j hj hj] at hd; cases hd
theorem all_long_false {l : List ByteArray} {j : Nat} (hj : j < l.length) (hd : isLong l[j] = false) : l.all isLong = false := by
  rw [List.all_eq_false]; exact ⟨_, List.getElem_mem hj, by simp [hd]⟩
theorem all_long_true {l : List ByteArray} (h : ∀ i, (hi : i < l.length) → isLong l[i] = true) : l.all isLong = true := by
  rw [List.all_eq_true]; intro x hx; obtain ⟨i, hi, rfl⟩ := List.getElem_of_mem hx; exact h i hi
set_option maxHeartbeats 400000 in
theorem increasing_any (v : Value) (l : List ByteArray) (w : World) (hv : Strs w v l) :
    Calls Try.prog 88 #[v] w fun e w' => e = .returned (.bool (incB l)) ∧ Below w.heap.size w w' := by
  obtain ⟨a, c, rfl, hl, hc, hcs⟩ := hv.shape
  unfold maxLen at hc
  clear hv
  go_enter Try.func88, Try.ntmps88
  go_wp2
  go_loopw [3] (fun i wr => ∃ j : Nat, j + 1 ≤ l.length + 1 ∧ i = .int .i64 ((j : Int) + 1) ∧ IncTo l (j + 1) ∧ Below w.heap.size w wr) (fun i _ => l.length + 1 - (intOf i).toNat)
  case atStart => exact ⟨0, by omega, rfl, fun i h _ => by omega, Below.refl _ _⟩
  case round =>
    obtain ⟨j, hj, rfl, hinc, hb⟩ := hrel
    have Hinc := Lib.hid hinc
    clear hinc
    by_cases hlt : j + 1 < l.length
    · obtain ⟨b1, o1, rfl, hc1, hs1⟩ := hcs (j + 1) hlt
      obtain ⟨b2, o2, he2, hc2, hs2⟩ := hcs j (by omega)
      cases he2
      have hw1 : wr.cell? ⟨b1, o1 + (j + 1), none⟩ = some (.string l[j + 1]) := (hb.cell (cell_lt hc1)).trans hc1
      have hw2 : wr.cell? ⟨b1, o1 + j, none⟩ = some (.string l[j]) := (hb.cell (cell_lt hc2)).trans hc2
      clear hcs hc1 hc2
      cases hd : Op.bytesLess l[j].toList l[j + 1].toList
      · have Hd := Lib.hid hd
        go_wp2
        go_quiet (fail)
        go_wp2
        go_ret
        exact ⟨ret_bool (lexB_false_of_inc hlt Hd.out).symm, below_drewN hb _⟩
      · have Hd := Lib.hid hd
        go_wp2
        go_quiet (fail)
        go_wp2
        go_roundw
        case rel => exact ⟨j + 1, by omega, by go_num, Hinc.out.succ hlt Hd.out, below_drewN hb _⟩
        case measure => simp [intOf]; omega
    · go_wp2
      go_ret
      refine ⟨ret_bool (Eq.symm ((incB_iff l).2 fun i h1 h2 => Hinc.out i (by omega) h2)), hb⟩
theorem drewN_two (w : World) (a b : Nat) : (w.drewN a).drewN b = w.drewN (a + b) := World.drewN_drewN w a b
set_option maxHeartbeats 1000000 in
theorem l05Ok_any (g : Nat) (s : Value) (l : List ByteArray) (w : World) (hg : w.cell? ⟨g, 0, none⟩ = some s) (hv : Strs w s l) :
    Calls Try.prog 52 #[.pointer (some ⟨g, 0, none⟩)] w fun e w' => e = .returned (.bool (lexB l)) ∧ ∃ q, w' = w.drewN q := by
  obtain ⟨a, c, rfl, hl, hc, hcs⟩ := hv.shape
  unfold maxLen at hc
  clear hv
  go_enter Try.func52, Try.ntmps52
  go_wp2
  go_loopw [3] (fun i wr => ∃ j q : Nat, j ≤ l.length ∧ i = .int .i64 (j : Int) ∧ wr = w.drewN q ∧ IncTo l j ∧ (∀ i, i < j → (h : i < l.length) → isLong l[i] = true)) (fun i _ => l.length - (intOf i).toNat)
  case atStart => exact ⟨0, 0, by omega, rfl, rfl, fun i h _ => by omega, fun i h => by omega⟩
  case round =>
    obtain ⟨j, q, hj, rfl, hw, hinc, hlong⟩ := hrel
    have hgr : wr.cell? ⟨g, 0, none⟩ = some (.slice a l.length c) := by rw [hw]; exact hg
    have Hg := Lib.hid hg
    have Hw := Lib.hid hw
    have Hinc := Lib.hid hinc
    have Hlong := Lib.hid hlong
    clear hinc hlong hg hw
    by_cases hlt : j < l.length
    · obtain ⟨b1, o1, rfl, hc1, hs1⟩ := hcs j hlt
      have hw1 : wr.cell? ⟨b1, o1 + j, none⟩ = some (.string l[j]) := by rw [Hw.out]; exact hc1
      have hq := fun w0 => l05Long_any l[j] w0 hs1
      cases hd : isLong l[j]
      · have Hd := Lib.hid hd
        simp only [hd] at hq
        clear hcs hc1
        go_wp2
        go_quiet ((go_at_call 87; exact quiet_eq (hq _)))
        go_wp2
        go_ret
        refine ⟨ret_bool ?_, q + nq, by rw [Hw.out, drewN_two]⟩
        rw [lexB, all_long_false hlt Hd.out, Bool.and_false]
      · simp only [hd] at hq
        have Hd := Lib.hid hd
        have Hlong2 : Hid (∀ i, i < j + 1 → (h : i < l.length) → isLong l[i] = true) := Lib.hid (fun i hi h => by
          rcases Nat.lt_succ_iff_lt_or_eq.1 hi with h2 | rfl
          · exact Hlong.out i h2 h
          · exact hd)
        by_cases h0 : 0 < j
        · obtain ⟨k, rfl⟩ : ∃ k, j = k + 1 := ⟨j - 1, by omega⟩
          obtain ⟨b2, o2, he2, hc2, hs2⟩ := hcs k (by omega)
          cases he2
          have hw2 : wr.cell? ⟨b1, o1 + k, none⟩ = some (.string l[k]) := by rw [Hw.out]; exact hc2
          clear hcs hc1 hc2
          rcases bl_tri l[k].toList l[k + 1].toList with ⟨hd2, hx1, -, hx2⟩ | ⟨hd2, hx1, -, -⟩ | ⟨hd2, hx1, hx2⟩
          · have Hd2 := Lib.hid hd2
            clear hd2
            go_wp2
            go_quiet ((go_at_call 87; exact quiet_eq (hq _)))
            go_wp2
            go_roundw
            case rel => exact ⟨k + 1 + 1, q + nq, by omega, by go_num, by rw [Hw.out, drewN_two], Hinc.out.succ hlt Hd2.out, Hlong2.out⟩
            case measure => simp [intOf]; omega
          · have Hd2 := Lib.hid hd2
            clear hd2
            go_wp2
            go_quiet ((go_at_call 87; exact quiet_eq (hq _)))
            go_wp2
            go_ret
            refine ⟨ret_bool ?_, q + nq, by rw [Hw.out, drewN_two]⟩
            rw [lexB, lexB_false_of_inc hlt Hd2.out, Bool.and_false, Bool.false_and]
          · have Hd2 := Lib.hid hd2
            have hx3 : (l[k + 1].toList == l[k].toList) = true := by rw [hx2]; exact beq_self_eq_true _
            clear hd2 hx2
            go_wp2
            go_quiet ((go_at_call 87; exact quiet_eq (hq _)))
            go_wp2
            go_ret
            refine ⟨ret_bool ?_, q + nq, by rw [Hw.out, drewN_two]⟩
            rw [lexB, lexB_false_of_inc hlt Hd2.out, Bool.and_false, Bool.false_and]
        · have hd0 : decide (0 < j) = false := by rw [decide_eq_false_iff_not]; omega
          have Hj := Lib.hid (show j = 0 by omega)
          clear hcs hc1 h0
          go_wp2
          go_quiet ((go_at_call 87; exact quiet_eq (hq _)))
          go_wp2
          go_roundw
          case rel => exact ⟨j + 1, q + nq, by omega, by go_num, by rw [Hw.out, drewN_two], fun i h _ => by have := Hj.out; omega, Hlong2.out⟩
          case measure => simp [intOf]; omega
    · go_wp2
      go_ret
      obtain rfl : j = l.length := by omega
      refine ⟨ret_bool ?_, q, Hw.out⟩
      rw [lexB, (incB_iff l).2 Hinc.out, all_long_true (fun i hi => Hlong.out i hi hi), Bool.and_true, Bool.and_true]
      exact decide_eq_decide.2 (by omega)
set_option maxHeartbeats 1000000 in
theorem implValidLexicon_any (v : Value) (l : List ByteArray) (w : World) (hv : LexR w v l) :
    Calls Try.prog 55 #[v] w fun e w' => e = .returned (.bool (lexB l)) ∧ Below w.heap.size w w' := by
  obtain ⟨s, rfl, hs⟩ := hv
  obtain ⟨a, c, rfl, hl, hc, hcs⟩ := hs.shape
  unfold maxLen at hc
  have hb0 : Below w.heap.size w (w.alloc (.cells #[.slice a l.length c] 40)) := (Below.refl _ _).alloc (Nat.le_refl _) _
  by_cases h200 : l.length ≤ 200
  · go_enter Try.func55, Try.ntmps55
    go_wp2_with fail
    refine (increasing_any _ l _ (hs.below hb0)).mono ?_
    rintro e w1 ⟨rfl, hb1⟩
    have hcell : w1.cell? ⟨w.heap.size, 0, none⟩ = some (.slice a l.length c) := by
      rw [hb1.cell (p := ⟨w.heap.size, 0, none⟩) (by simp)]; exact cell_new _ _ _
    have hb := hb0.trans (hb1.mono hb0.size)
    have Hs := Lib.hid hs
    clear hb1 hs
    cases hi : incB l
    · have Hi := Lib.hid hi
      go_wp2
      go_ret
      exact ⟨ret_bool (by rw [lexB, Hi.out, Bool.and_false, Bool.false_and]), hb⟩
    · have Hi := Lib.hid hi
      clear hi
      go_wp2
      clear hcell
      go_loopw [18] (fun i wr => ∃ j : Nat, j ≤ l.length ∧ i = .int .i64 (j : Int) ∧ Below w.heap.size w wr ∧ (∀ i, i < j → (h : i < l.length) → isLong l[i] = true)) (fun i _ => l.length - (intOf i).toNat)
      case atStart => exact ⟨0, by omega, rfl, hb, fun i h => by omega⟩
      case round =>
        obtain ⟨j, hj, rfl, hb2, hlong⟩ := hrel
        have Hlong := Lib.hid hlong
        clear hlong hb hb0
        by_cases hlt : j < l.length
        · obtain ⟨b1, o1, rfl, hc1, hs1⟩ := hcs j hlt
          have hw1 : wr.cell? ⟨b1, o1 + j, none⟩ = some (.string l[j]) := (hb2.cell (cell_lt hc1)).trans hc1
          clear hcs hc1
          cases hd : isLong l[j]
          · have Hd := Lib.hid hd
            go_wp2_with fail
            refine (isLong_any _ _ hs1).mono ?_
            rw [hd]
            rintro e w2 ⟨rfl, hb3⟩
            go_wp2
            go_ret
            refine ⟨ret_bool ?_, hb2.trans (hb3.mono hb2.size)⟩
            rw [lexB, all_long_false hlt Hd.out, Bool.and_false]
          · have Hd := Lib.hid hd
            go_wp2_with fail
            refine (isLong_any _ _ hs1).mono ?_
            rw [hd]
            rintro e w2 ⟨rfl, hb3⟩
            go_wp2
            go_roundw
            case rel =>
              refine ⟨j + 1, by omega, by go_num, hb2.trans (hb3.mono hb2.size), fun i hi h => ?_⟩
              rcases Nat.lt_succ_iff_lt_or_eq.1 hi with h2 | rfl
              · exact Hlong.out i h2 h
              · exact Hd.out
            case measure => simp [intOf]; omega
        · go_wp2
          go_ret
          obtain rfl : j = l.length := by omega
          refine ⟨ret_bool ?_, hb2⟩
          rw [lexB, Hi.out, all_long_true (fun i hi => Hlong.out i hi hi), Bool.and_true, Bool.and_true, eq_comm, decide_eq_true_iff]
          exact h200
  · go_enter Try.func55, Try.ntmps55
    go_wp2
    go_ret
    exact ⟨ret_bool (by rw [lexB, decide_eq_false h200, Bool.false_and, Bool.false_and]), hb0⟩
end Go.Proofs.Ythpjinfkagllfaa
