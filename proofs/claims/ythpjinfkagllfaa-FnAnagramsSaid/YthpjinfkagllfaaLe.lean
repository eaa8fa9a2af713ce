/- PrefixRange and RemoveWord of both sides; slices.BinarySearch over words that rise. Conditions: the readings; strings of at most 2^20 bytes. -/
import Derived.Test.YthpjinfkagllfaaLc
import Derived.Test.YthpjinfkagllfaaU
import Derived.Shelf.Spec.SearchS
namespace Go.Proofs.Ythpjinfkagllfaa
open Go.RowKit
/-- How many elements at the head satisfy f. -/
def firstP (f : ByteArray → Bool) : List ByteArray → Nat
  | [] => 0
  | s :: r => if f s then firstP f r + 1 else 0
theorem firstP_le (f : ByteArray → Bool) : ∀ l, firstP f l ≤ l.length
  | [] => Nat.le_refl _
  | s :: r => by have := firstP_le f r; rw [firstP]; split <;> simp <;> omega
theorem firstP_eq (f : ByteArray → Bool) : ∀ (l : List ByteArray) (k : Nat), k ≤ l.length → (∀ j, (h : j < l.length) → j < k → f l[j] = true) → ((h : k < l.length) → f l[k] = false) → firstP f l = k
  | [], k, hk, _, _ => by simp at hk; rw [hk]; rfl
  | s :: r, 0, _, _, h2 => by have := h2 (by simp); simp at this; simp [firstP, this]
  | s :: r, k + 1, hk, h1, h2 => by
    have h0 := h1 0 (by simp) (by omega)
    simp at h0
    have ih := firstP_eq f r k (by simpa using hk) (fun j h hj => by have := h1 (j + 1) (by simpa using h) (by omega); simpa using this) (fun h => by have := h2 (by simpa using h); simpa using this)
    simp [firstP, h0, ih]
theorem firstP_lt (f : ByteArray → Bool) : ∀ (l : List ByteArray) (j : Nat), (h : j < l.length) → j < firstP f l → f l[j] = true
  | [], j, h, _ => by simp at h
  | s :: r, 0, _, hj => by
    cases hs : f s
    · simp [firstP, hs] at hj
    · simpa using hs
  | s :: r, j + 1, h, hj => by
    cases hs : f s
    · simp [firstP, hs] at hj
    · have := firstP_lt f r j (by simpa using h) (by simp [firstP, hs] at hj; omega)
      simpa using this
theorem firstP_at (f : ByteArray → Bool) : ∀ (l : List ByteArray), (h : firstP f l < l.length) → f l[firstP f l] = false
  | [], h => by simp at h
  | s :: r, h => by
    cases hs : f s
    · simp [firstP, hs]
    · have h' : firstP f r < r.length := by simp [firstP, hs] at h; omega
      have := firstP_at f r h'
      simp [firstP, hs, this]
/-- Less than p; beginning with p. -/
def lessP (p s : ByteArray) : Bool := Op.bytesLess s.toList p.toList
theorem inc_lt {l : List ByteArray} (h : IncTo l l.length) : ∀ (d i : Nat), (hd : i + d + 1 < l.length) → Op.bytesLess l[i].toList l[i + d + 1].toList = true
  | 0, i, hd => h i (by omega) hd
  | d + 1, i, hd => bl_trans _ _ _ (inc_lt h d i (by omega)) (h (i + d + 1) (by omega) (by omega))
theorem inc_lt2 {l : List ByteArray} (h : IncTo l l.length) (i j : Nat) (hij : i < j) (hj : j < l.length) : Op.bytesLess l[i].toList l[j].toList = true := by
  have := inc_lt h (j - i - 1) i (by omega)
  simpa only [show i + (j - i - 1) + 1 = j by omega] using this
theorem bl_irr (x : List UInt8) : Op.bytesLess x x = false := by
  rcases bl_tri x x with h | h | h
  · exact absurd h.1 (by rw [h.2.1]; simp)
  · exact h.1
  · exact h.1
theorem lessP_mono {l : List ByteArray} {p : ByteArray} (h : IncTo l l.length) (i j : Nat) (hij : i ≤ j) (hj : j < l.length) (hl : lessP p l[j] = true) : lessP p l[i] = true := by
  rcases Nat.lt_or_ge i j with hlt | hge
  · exact bl_trans _ _ _ (inc_lt2 h i j hlt hj) hl
  · obtain rfl : i = j := by omega
    exact hl
/-- What slices.BinarySearch finds. -/
theorem bs_is {l : List ByteArray} {p : ByteArray} (h : IncTo l l.length) : Lib.bsGo (fun t => Op.bytesLess (if ht : t < l.length then l[t] else p).toList p.toList) l.length 0 l.length = firstP (lessP p) l := by
  refine Lib.bsGo_spec _ _ (fun t ht => ?_) (fun t ht => ?_) _ _ _ (by omega) (Nat.zero_le _) (firstP_le _ _)
  · have hl : t < l.length := Nat.lt_of_lt_of_le ht (firstP_le _ _)
    simp only [dif_pos hl]
    exact firstP_lt (lessP p) l t hl ht
  · by_cases hl : t < l.length
    · simp only [dif_pos hl]
      have h0 := firstP_at (lessP p) l (by omega)
      cases hc : Op.bytesLess l[t].toList p.toList
      · rfl
      · rw [lessP_mono h _ t ht hl hc] at h0; cases h0
    · simp only [dif_neg hl]
      exact bl_irr _
theorem mem_first {l : List ByteArray} {p : ByteArray} (h : IncTo l l.length) : p ∈ l ↔ ∃ hk : firstP (lessP p) l < l.length, l[firstP (lessP p) l] = p := by
  constructor
  · intro hm
    obtain ⟨j, hj, rfl⟩ := List.getElem_of_mem hm
    have e : firstP (lessP l[j]) l = j := by
      refine firstP_eq _ _ _ (by omega) (fun i hi hij => inc_lt2 h i j hij hj) (fun _ => bl_irr _)
    exact ⟨by rw [e]; exact hj, by simp only [e]⟩
  · rintro ⟨hk, e⟩
    exact e ▸ List.getElem_mem hk
def hasB (l : List ByteArray) (p : ByteArray) : Bool := l.any fun s => decide (s = p)
theorem hasB_iff {l : List ByteArray} {p : ByteArray} : hasB l p = true ↔ p ∈ l := by
  unfold hasB
  rw [List.any_eq_true]
  constructor
  · rintro ⟨s, hs, e⟩; exact of_decide_eq_true e ▸ hs
  · intro h; exact ⟨p, h, decide_eq_true rfl⟩
theorem hasB_true {l : List ByteArray} {p : ByteArray} (h : IncTo l l.length) (hk : firstP (lessP p) l < l.length) (e : l[firstP (lessP p) l] = p) : true = hasB l p :=
  (hasB_iff.2 ((mem_first h).2 ⟨hk, e⟩)).symm
theorem hasB_false {l : List ByteArray} {p : ByteArray} (h : IncTo l l.length) (hn : ∀ hk : firstP (lessP p) l < l.length, l[firstP (lessP p) l] ≠ p) : false = hasB l p := by
  cases hb : hasB l p
  · rfl
  · obtain ⟨hk, e⟩ := (mem_first h).1 (hasB_iff.1 hb)
    exact absurd e (hn hk)
theorem hasB_at {l : List ByteArray} {p : ByteArray} (h : IncTo l l.length) (hb : hasB l p = true) : ∃ hk : firstP (lessP p) l < l.length, l[firstP (lessP p) l] = p := (mem_first h).1 (hasB_iff.1 hb)
attribute [local irreducible] Calls
set_option maxHeartbeats 1000000 in
theorem l05First_any (v : Value) (l : List ByteArray) (p : ByteArray) (w : World) (hv : Strs w v l) (hn : l.length ≤ 1048576) :
    Calls Try.prog 91 #[v, .string p] w fun e w' => e = .returned (.int .i64 (firstP (lessP p) l : Nat)) ∧ Below w.heap.size w w' := by
  obtain ⟨a, c, rfl, hl, hc, hcs⟩ := hv.shape
  unfold maxLen at hc
  clear hv
  go_enter Try.func91, Try.ntmps91
  go_wp2
  go_loopw [5] (fun i wr => ∃ k : Nat, k ≤ l.length ∧ i = .int .i64 (k : Int) ∧ (∀ j, (h : j < l.length) → j < k → lessP p l[j] = true) ∧ Below w.heap.size w wr) (fun i _ => l.length - (intOf i).toNat)
  case atStart => exact ⟨0, by omega, rfl, fun j h hj => by omega, Below.refl _ _⟩
  case round =>
    obtain ⟨k, hk, rfl, hb, hbl⟩ := hrel
    have Hb := Lib.hid hb
    clear hb
    by_cases hlt : k < l.length
    · obtain ⟨b1, o1, rfl, hc1, hs1⟩ := hcs k hlt
      have hw1 : wr.cell? ⟨b1, o1 + k, none⟩ = some (.string l[k]) := (hbl.cell (cell_lt hc1)).trans hc1
      clear hcs hc1
      cases hd : Op.bytesLess l[k].toList p.toList
      · have Hd := Lib.hid hd
        go_wp2
        go_ret
        exact ⟨ret_int (by rw [firstP_eq (lessP p) l k hk Hb.out (fun _ => Hd.out)]), hbl⟩
      · have Hd := Lib.hid hd
        go_wp2
        go_roundw
        case rel =>
          refine ⟨k + 1, by omega, by go_num, fun j h hj => ?_, hbl⟩
          rcases Nat.lt_succ_iff_lt_or_eq.1 hj with h2 | rfl
          · exact Hb.out j h h2
          · exact Hd.out
        case measure => simp [intOf]; omega
    · have hd0 : decide ((k : Int) < (l.length : Int)) = false := by rw [decide_eq_false_iff_not]; omega
      go_wp2
      go_ret
      exact ⟨ret_int (by rw [firstP_eq (lessP p) l k hk Hb.out (fun h => absurd h hlt)]), hbl⟩
theorem begP_yes {s p : ByteArray} (h0 : p.size ≤ s.size) (h : ((s.extract 0 p.size).toList == p.toList) = true) : true = begP p s := (begP_iff.2 ⟨h0, bytes_eq_of h⟩).symm
theorem begP_no {s p : ByteArray} (h : ((s.extract 0 p.size).toList == p.toList) = false) : false = begP p s := by
  cases hb : begP p s
  · rfl
  · exact absurd (begP_iff.1 hb).2 (bytes_ne_of h)
theorem begP_short {s p : ByteArray} (h : ¬ p.size ≤ s.size) : false = begP p s := by
  cases hb : begP p s
  · rfl
  · exact absurd (begP_iff.1 hb).1 h
/-- How many words begin with p, from the first that is not less. -/
def prefN (l : List ByteArray) (p : ByteArray) : Nat := firstP (begP p) (l.drop (firstP (lessP p) l))
theorem prefN_le (l : List ByteArray) (p : ByteArray) : firstP (lessP p) l + prefN l p ≤ l.length := by
  have h1 := firstP_le (lessP p) l
  have h2 := firstP_le (begP p) (l.drop (firstP (lessP p) l))
  rw [List.length_drop] at h2
  unfold prefN
  omega
theorem prefN_is {l : List ByteArray} {p : ByteArray} {m : Nat} (hm : firstP (lessP p) l + m ≤ l.length) (h1 : ∀ j, (h : firstP (lessP p) l + j < l.length) → j < m → begP p l[firstP (lessP p) l + j] = true)
    (h2 : (h : firstP (lessP p) l + m < l.length) → begP p l[firstP (lessP p) l + m] = false) : prefN l p = m := by
  unfold prefN
  refine firstP_eq _ _ _ (by rw [List.length_drop]; omega) (fun j h hj => ?_) (fun h => ?_)
  · rw [List.getElem_drop]; exact h1 j (by rw [List.length_drop] at h; omega) hj
  · rw [List.getElem_drop]; exact h2 (by rw [List.length_drop] at h; omega)
def preV (l : List ByteArray) (p : ByteArray) : Int × Int × Int := if lexB l then (firstP (lessP p) l, prefN l p, 0) else (0, 0, 1)
theorem preV_no {l : List ByteArray} (h : lexB l = false) (p : ByteArray) : preV l p = (0, 0, 1) := by simp [preV, h]
theorem preV_yes {l : List ByteArray} (h : lexB l = true) (p : ByteArray) : preV l p = (((firstP (lessP p) l : Nat) : Int), ((prefN l p : Nat) : Int), 0) := by simp [preV, h]
theorem ret_iii {n m k : Int} {r : Int × Int × Int} (h : r = (n, m, k)) : Ending.returned (.tuple #[.int .i64 n, .int .i64 m, .int .i64 k]) = .returned (.tuple #[.int .i64 r.1, .int .i64 r.2.1, .int .i64 r.2.2]) := by rw [h]
theorem ret_ii2 {n m n' m' : Int} (h : n = n') (h2 : m = m') : Ending.returned (.tuple #[.int .i64 n, .int .i64 m]) = .returned (.tuple #[.int .i64 n', .int .i64 m']) := by rw [h, h2]
end Go.Proofs.Ythpjinfkagllfaa
