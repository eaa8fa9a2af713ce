/- Contracts of CanMake and what it calls, in the program and in the reference. Conditions: strings of at most 2^20 bytes; the word of tiles. -/
import Derived.Test.YtdgmndeindaobaaR
namespace Go.Proofs.Ytdgmndeindaobaa
open Go.RowKit

/-- Counts, none below 0. -/
def posC (f : Nat → Int) : Nat → Int := fun k => max (f k) 0
theorem needR_congr : ∀ (l : List UInt8) (f g : Nat → Int), tileAll l = true → (∀ p, p < 27 → f p = g p) → needR f l = needR g l
  | [], _, _, _, _ => rfl
  | c :: r, f, g, ht, h => by
    have hc : tileI c.toNat = true := by simp [tileAll] at ht; exact ht.1
    have hr : tileAll r = true := by simp [tileAll] at ht ⊢; exact ht.2
    obtain ⟨p, hp, hp2⟩ := placeI_nat hc
    simp only [needR, hp, Int.toNat_natCast, h p hp2]
    split
    · refine needR_congr r _ _ hr fun q hq => ?_
      unfold upd; split
      · rfl
      · exact h q hq
    · rw [needR_congr r f g hr h]
theorem needR_cons (f : Nat → Int) (c : UInt8) (r : List UInt8) (p : Nat) (hp : placeI c.toNat = p) : needR f (c :: r) = if 0 < f p then needR (upd f p (f p - 1)) r else 1 + needR f r := by
  simp only [needR, hp, Int.toNat_natCast]
theorem needR_range : ∀ (l : List UInt8) (f : Nat → Int), 0 ≤ needR f l ∧ needR f l ≤ l.length
  | [], f => by simp [needR]
  | c :: r, f => by
    simp only [needR]
    have h1 := needR_range r (upd f (placeI c.toNat).toNat (f (placeI c.toNat).toNat - 1))
    have h2 := needR_range r f
    simp only [List.length_cons]
    split <;> omega
theorem drop_cons_ba (s : ByteArray) (k : Nat) (h : k < s.size) : s.data.toList.drop k = s[k] :: s.data.toList.drop (k + 1) := List.drop_eq_getElem_cons (by simpa using h)
theorem tileAll_drop {l : List UInt8} (h : tileAll l = true) (k : Nat) : tileAll (l.drop k) = true := tiles_sub (List.drop_sublist k l) h

/-- Where the walk of canMake stands: the counts, and how many blanks are left. -/
def CanAt (f : Nat → Int) (l : List UInt8) (i : Nat) (g : Nat → Int) (b : Int) : Prop :=
  (∀ p, p < 27 → -(i : Int) ≤ g p ∧ g p ≤ 2097152) ∧ needR f l = f 0 - b + needR (posC g) (l.drop i) ∧ f 0 - (i : Int) ≤ b ∧ b ≤ f 0
theorem CanAt.step {f : Nat → Int} {s : ByteArray} {i : Nat} {g : Nat → Int} {b : Int} (h : CanAt f s.data.toList i g b) (hi : i < s.size) (p : Nat) (hp : placeI s[i].toNat = p) (hp2 : p < 27) (ht : tileAll s.data.toList = true) :
    (g p - 1 < 0 → CanAt f s.data.toList (i + 1) (upd g p (g p - 1)) (b - 1)) ∧ (¬ g p - 1 < 0 → CanAt f s.data.toList (i + 1) (upd g p (g p - 1)) b) := by
  obtain ⟨h1, h2, h3, h4⟩ := h
  rw [drop_cons_ba s i hi, needR_cons _ _ _ p hp] at h2
  have hg : ∀ q, q < 27 → -((i + 1 : Nat) : Int) ≤ upd g p (g p - 1) q ∧ upd g p (g p - 1) q ≤ 2097152 := by
    intro q hq
    have := h1 q hq
    unfold upd
    split
    · rename_i e; subst e; omega
    · omega
  have hd := tileAll_drop ht (i + 1)
  constructor
  · intro hn
    have hz : ¬ 0 < posC g p := by unfold posC; omega
    rw [if_neg hz] at h2
    refine ⟨hg, ?_, by omega, by omega⟩
    rw [h2, needR_congr _ (posC (upd g p (g p - 1))) (posC g) hd ?_]
    · omega
    · intro q _
      unfold posC upd
      split
      · rename_i e; subst e; omega
      · rfl
  · intro hn
    have hz : 0 < posC g p := by unfold posC; omega
    rw [if_pos hz] at h2
    refine ⟨hg, ?_, by omega, by omega⟩
    rw [h2, needR_congr _ (posC (upd g p (g p - 1))) (upd (posC g) p (posC g p - 1)) hd ?_]
    intro q _
    unfold posC upd
    split
    · rename_i e; subst e; omega
    · rfl
set_option maxHeartbeats 1000000 in
theorem canMake_any (f : Nat → Int) (s : ByteArray) (w : World) (hf : ∀ j, 0 ≤ f j ∧ f j ≤ 2097152) (hs : s.size ≤ 1048576) (ht : tileAll s.data.toList = true) :
    Calls Try.prog 52 #[.agg (cs f), .string s] w fun e w' => e = .returned (.bool (decide (needR f s.data.toList ≤ f 0))) ∧ Below w.heap.size w w' := by
  have Ht := Lib.hid ht; clear ht
  have Hf := Lib.hid hf
  have hc0 : (w.alloc (.cells (cs f) 58)).cell? ⟨w.heap.size, 0, none⟩ = some (.int .i64 (f 0)) := by
    rw [cell_of_row _ _ 0 _ _ _ (heap_alloc_new w _), cs_get f 0 (by omega)]
  have hc1 : (cs f)[0]? = some (.int .i64 (f 0)) := cs_get f 0 (by omega)
  obtain ⟨hf0, hf1⟩ := hf 0
  clear hf
  go_enter Try.func52, Try.ntmps52
  go_wp2
  clear hc0 hc1
  go_loopw [5, 6, 7] (fun bl i _ wr => ∃ (k : Nat) (g : Nat → Int) (b : Int), k ≤ s.size ∧ i = .int .i64 k ∧ bl = .int .i64 b ∧ CanAt f s.data.toList k g b ∧ wr.heap[w.heap.size]? = some (.cells (cs g) 58 (0, 0)) ∧ Below w.heap.size w wr) (fun _ i _ _ => s.size - (intOf i).toNat)
  case atStart =>
    refine ⟨0, f, f 0, Nat.zero_le _, rfl, rfl, ⟨fun p _ => ?_, ?_, by omega, by omega⟩, heap_alloc_new w _, (Below.refl _ _).alloc (Nat.le_refl _) _⟩
    · have := Hf.out p; omega
    · have : posC f = f := by funext p; have := Hf.out p; unfold posC; omega
      rw [this]; simp
  case round =>
    obtain ⟨k, g, b, hk, rfl, rfl, hat, h1, hb⟩ := hrel
    by_cases hlt : k < s.size
    · obtain ⟨p, hp, hp27⟩ := placeI_nat (all_get Ht.out k hlt)
      obtain ⟨hgp1, hgp2⟩ := hat.1 p hp27
      have hb1 := hat.2.2.1
      have hb2 := hat.2.2.2
      have hcell : wr.cell? ⟨w.heap.size, p, none⟩ = some (.int .i64 (g p)) := by
        rw [cell_of_row wr _ p _ _ _ h1, cs_get _ p hp27]
      have hfr : wr.frozen? ⟨w.heap.size, p, none⟩ = false := frozen_of_row wr _ p _ _ h1
      have hset : (wr.setCell ⟨w.heap.size, p, none⟩ (.int .i64 (g p - 1))).heap[w.heap.size]? = some (.cells (cs (upd g p (g p - 1))) 58 (0, 0)) := by
        rw [heap_setCell_same _ _ _ _ _ _ h1, cs_set _ _ _ hp27]
      have hset3 : (wr.setCell ⟨w.heap.size, p, none⟩ (.int .i64 (g p - 1))).cell? ⟨w.heap.size, p, none⟩ = some (.int .i64 (g p - 1)) := by
        rw [cell_of_row _ _ p _ _ _ hset, cs_get _ p hp27]; simp [upd]
      have Hset := Lib.hid hset; clear hset h1
      have Hp := Lib.hid hp; clear hp
      have Hst := Lib.hid (hat.step hlt p Hp.out hp27 Ht.out)
      clear hat
      by_cases hn : g p - 1 < 0
      · go_wp2_with fail
        refine (place_any _ _ (byte_range _).1 (byte_range _).2).mono ?_
        rintro e w' ⟨rfl, rfl⟩
        rw [Hp.out]
        go_wp2
        go_roundw
        case rel => exact ⟨k + 1, _, b - 1, by omega, by go_num, by go_num, Hst.out.1 hn, Hset.out, hb.setCell (p := ⟨w.heap.size, p, none⟩) (Nat.le_refl _) _⟩
        case measure => simp [intOf]; omega
      · go_wp2_with fail
        refine (place_any _ _ (byte_range _).1 (byte_range _).2).mono ?_
        rintro e w' ⟨rfl, rfl⟩
        rw [Hp.out]
        go_wp2
        go_roundw
        case rel => exact ⟨k + 1, _, b, by omega, by go_num, rfl, Hst.out.2 (by omega), Hset.out, hb.setCell (p := ⟨w.heap.size, p, none⟩) (Nat.le_refl _) _⟩
        case measure => simp [intOf]; omega
    · have h2 := hat.2.1
      rw [List.drop_eq_nil_of_le (by simp; omega)] at h2
      simp only [needR] at h2
      have H2 := Lib.hid h2; clear h2 hat
      go_wp2
      go_ret
      exact ⟨ret_bool (by have := H2.out; rw [decide_eq_decide]; omega), hb⟩
theorem word_tiles {s : ByteArray} (h : isWord s = true) : tileAll s.data.toList = true ∧ s.size ≤ 12 := by
  simp only [isWord, inI, Bool.and_eq_true, decide_eq_true_eq] at h
  refine ⟨tileAll_of fun c hc => ?_, by omega⟩
  have h1 := h.1
  unfold smallAll at h1
  rw [List.all_eq_true] at h1
  simp [tileI, h1 c hc]
/-- What CanMake comes to. -/
def canV (a s : ByteArray) : Bool := isPile a && isWord s && decide (needR (cntOf a.data.toList) s.data.toList ≤ cntOf a.data.toList 0)
end Go.Proofs.Ytdgmndeindaobaa
