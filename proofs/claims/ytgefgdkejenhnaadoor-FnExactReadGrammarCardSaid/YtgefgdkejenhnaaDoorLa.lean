/- What the laws on lexicons call: l05Same, SameLexicon, increasing, l05Ok, ValidLexicon, of both sides. No condition but the readings. -/
import Derived.Test.YtgefgdkejenhnaaDoorL
import Derived.Test.YtgefgdkejenhnaaDoorW
import Derived.Test.YtgefgdkejenhnaaDoorSh
namespace Go.Proofs.YtgefgdkejenhnaaDoor
open Go.RowKit

/-- The first k are strictly increasing. -/
def IncTo (l : List ByteArray) (k : Nat) : Prop := ∀ i, i + 1 < k → (h : i + 1 < l.length) → Op.bytesLess l[i].toList l[i + 1].toList = true
def incB (l : List ByteArray) : Bool := (List.range (l.length - 1)).all fun i => Op.bytesLess (l.getD i ByteArray.empty).toList (l.getD (i + 1) ByteArray.empty).toList
theorem incB_iff (l : List ByteArray) : incB l = true ↔ IncTo l l.length := by
  simp only [incB, List.all_eq_true, List.mem_range, IncTo]
  constructor
  · intro h i hi h2
    have h3 := h i (by omega)
    rwa [List.getD_eq_getElem?_getD, List.getD_eq_getElem?_getD, List.getElem?_eq_getElem (by omega), List.getElem?_eq_getElem h2] at h3
  · intro h i hi
    have h3 := h i (by omega) (by omega)
    rwa [List.getD_eq_getElem?_getD, List.getD_eq_getElem?_getD, List.getElem?_eq_getElem (by omega), List.getElem?_eq_getElem (show i + 1 < l.length by omega)]
theorem IncTo.succ {l : List ByteArray} {j : Nat} (h : IncTo l (j + 1)) (hj : j + 1 < l.length) (hd : Op.bytesLess l[j].toList l[j + 1].toList = true) : IncTo l (j + 1 + 1) := by
  intro i hi h2
  by_cases he : i = j
  · subst he; exact hd
  · exact h i (by omega) h2
/-- What a valid lexicon is. -/
def lexB (l : List ByteArray) : Bool := decide (l.length ≤ 200) && incB l && l.all isLong
theorem lexB_len {l : List ByteArray} (h : lexB l = true) : l.length ≤ 200 := by simp [lexB] at h; exact h.1.1
theorem lexB_inc {l : List ByteArray} (h : lexB l = true) : IncTo l l.length := by simp only [lexB, Bool.and_eq_true] at h; exact (incB_iff l).1 h.1.2
theorem lexB_long {l : List ByteArray} (h : lexB l = true) : ∀ s ∈ l, isLong s = true := by simp only [lexB, Bool.and_eq_true, List.all_eq_true] at h; exact h.2
theorem lexB_false_of_inc {l : List ByteArray} {j : Nat} (hj : j + 1 < l.length) (hd : Op.bytesLess l[j].toList l[j + 1].toList = false) : incB l = false := by
  cases h : incB l
  · rfl
  · rw [(incB_iff l).1 h j hj hj] at hd; cases hd
theorem all_long_false {l : List ByteArray} {j : Nat} (hj : j < l.length) (hd : isLong l[j] = false) : l.all isLong = false := by
  rw [List.all_eq_false]; exact ⟨_, List.getElem_mem hj, by simp [hd]⟩
theorem all_long_true {l : List ByteArray} (h : ∀ i, (hi : i < l.length) → isLong l[i] = true) : l.all isLong = true := by
  rw [List.all_eq_true]; intro x hx; obtain ⟨i, hi, rfl⟩ := List.getElem_of_mem hx; exact h i hi
set_option maxHeartbeats 400000 in
theorem increasing_any (v : Value) (l : List ByteArray) (w : World) (hv : Strs w v l) :
    Calls Tryd.prog 79 #[v] w fun e w' => e = .returned (.bool (incB l)) ∧ Below w.heap.size w w' := by
  obtain ⟨a, c, rfl, hl, hc, hcs⟩ := hv.shape
  unfold maxLen at hc
  clear hv
  go_enter Tryd.func79, Tryd.ntmps79
  go_wp2
  go_loopw [3] (fun i wr => ∃ j : Nat, j + 1 ≤ l.length + 1 ∧ i = .int .i64 ((j : Int) + 1) ∧ IncTo l (j + 1) ∧ Below w.heap.size w wr) (fun i _ => l.length + 1 - (intOf i).toNat)
  case atStart => exact ⟨0, by omega, rfl, fun i h _ => by omega, Below.refl _ _⟩
  case round =>
    obtain ⟨j, hj, rfl, hinc, hb⟩ := hrel
    have Hinc := Lib.hid hinc
    clear hinc
    by_cases hlt : j + 1 < l.length
    · obtain ⟨b1, o1, rfl, hc1, hs1⟩ := hcs (j + 1) hlt
      obtain ⟨b2, o2, he2, hc2, hs2⟩ := hcs j (by omega)
      cases he2
      have hw1 : wr.cell? ⟨b1, o1 + (j + 1), none⟩ = some (.string l[j + 1]) := (hb.cell (cell_lt hc1)).trans hc1
      have hw2 : wr.cell? ⟨b1, o1 + j, none⟩ = some (.string l[j]) := (hb.cell (cell_lt hc2)).trans hc2
      clear hcs hc1 hc2
      cases hd : Op.bytesLess l[j].toList l[j + 1].toList
      · have Hd := Lib.hid hd
        go_wp2
        go_quiet (fail)
        go_wp2
        go_ret
        exact ⟨ret_bool (lexB_false_of_inc hlt Hd.out).symm, below_drewN hb _⟩
      · have Hd := Lib.hid hd
        go_wp2
        go_quiet (fail)
        go_wp2
        go_roundw
        case rel => exact ⟨j + 1, by omega, by go_num, Hinc.out.succ hlt Hd.out, below_drewN hb _⟩
        case measure => simp [intOf]; omega
    · go_wp2
      go_ret
      refine ⟨ret_bool (Eq.symm ((incB_iff l).2 fun i h1 h2 => Hinc.out i (by omega) h2)), hb⟩
theorem drewN_two (w : World) (a b : Nat) : (w.drewN a).drewN b = w.drewN (a + b) := World.drewN_drewN w a b
end Go.Proofs.YtgefgdkejenhnaaDoor
