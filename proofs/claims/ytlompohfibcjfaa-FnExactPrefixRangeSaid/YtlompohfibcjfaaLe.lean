/- PrefixRange and RemoveWord of both sides; slices.BinarySearch over words that rise. Conditions: the readings; strings of at most 2^20 bytes. -/
import Derived.Test.YtlompohfibcjfaaLc
import Derived.Shelf.Spec.SearchS
namespace Go.Proofs.Ytlompohfibcjfaa
open Go.RowKit
/-- How many elements at the head satisfy f. -/
def firstP (f : ByteArray → Bool) : List ByteArray → Nat
  | [] => 0
  | s :: r => if f s then firstP f r + 1 else 0
theorem firstP_le (f : ByteArray → Bool) : ∀ l, firstP f l ≤ l.length
  | [] => Nat.le_refl _
  | s :: r => by have := firstP_le f r; rw [firstP]; split <;> simp <;> omega
theorem firstP_eq (f : ByteArray → Bool) : ∀ (l : List ByteArray) (k : Nat), k ≤ l.length → (∀ j, (h : j < l.length) → j < k → f l[j] = true) → ((h : k < l.length) → f l[k] = false) → firstP f l = k
  | [], k, hk, _, _ => by simp at hk; rw [hk]; rfl
  | s :: r, 0, _, _, h2 => by have := h2 (by simp); simp at this; simp [firstP, this]
  | s :: r, k + 1, hk, h1, h2 => by
    have h0 := h1 0 (by simp) (by omega)
    simp at h0
    have ih := firstP_eq f r k (by simpa using hk) (fun j h hj => by have := h1 (j + 1) (by simpa using h) (by omega); simpa using this) (fun h => by have := h2 (by simpa using h); simpa using this)
    simp [firstP, h0, ih]
theorem firstP_lt (f : ByteArray → Bool) : ∀ (l : List ByteArray) (j : Nat), (h : j < l.length) → j < firstP f l → f l[j] = true
  | [], j, h, _ => by simp at h
  | s :: r, 0, _, hj => by
    cases hs : f s
    · simp [firstP, hs] at hj
    · simpa using hs
  | s :: r, j + 1, h, hj => by
    cases hs : f s
    · simp [firstP, hs] at hj
    · have := firstP_lt f r j (by simpa using h) (by simp [firstP, hs] at hj; omega)
      simpa using this
theorem firstP_at (f : ByteArray → Bool) : ∀ (l : List ByteArray), (h : firstP f l < l.length) → f l[firstP f l] = false
  | [], h => by simp at h
  | s :: r, h => by
    cases hs : f s
    · simp [firstP, hs]
    · have h' : firstP f r < r.length := by simp [firstP, hs] at h; omega
      have := firstP_at f r h'
      simp [firstP, hs, this]
/-- Less than p; beginning with p. -/
def lessP (p s : ByteArray) : Bool := Op.bytesLess s.toList p.toList
def begP (p s : ByteArray) : Bool := Lib.hasPrefix s.data.toList p.data.toList
theorem inc_lt {l : List ByteArray} (h : IncTo l l.length) : ∀ (d i : Nat), (hd : i + d + 1 < l.length) → Op.bytesLess l[i].toList l[i + d + 1].toList = true
  | 0, i, hd => h i (by omega) hd
  | d + 1, i, hd => bl_trans _ _ _ (inc_lt h d i (by omega)) (h (i + d + 1) (by omega) (by omega))
theorem inc_lt2 {l : List ByteArray} (h : IncTo l l.length) (i j : Nat) (hij : i < j) (hj : j < l.length) : Op.bytesLess l[i].toList l[j].toList = true := by
  have := inc_lt h (j - i - 1) i (by omega)
  simpa only [show i + (j - i - 1) + 1 = j by omega] using this
theorem bl_irr (x : List UInt8) : Op.bytesLess x x = false := by
  rcases bl_tri x x with h | h | h
  · exact absurd h.1 (by rw [h.2.1]; simp)
  · exact h.1
  · exact h.1
theorem lessP_mono {l : List ByteArray} {p : ByteArray} (h : IncTo l l.length) (i j : Nat) (hij : i ≤ j) (hj : j < l.length) (hl : lessP p l[j] = true) : lessP p l[i] = true := by
  rcases Nat.lt_or_ge i j with hlt | hge
  · exact bl_trans _ _ _ (inc_lt2 h i j hlt hj) hl
  · obtain rfl : i = j := by omega
    exact hl
/-- What slices.BinarySearch finds. -/
theorem bs_is {l : List ByteArray} {p : ByteArray} (h : IncTo l l.length) : Lib.bsGo (fun t => Op.bytesLess (if ht : t < l.length then l[t] else p).toList p.toList) l.length 0 l.length = firstP (lessP p) l := by
  refine Lib.bsGo_spec _ _ (fun t ht => ?_) (fun t ht => ?_) _ _ _ (by omega) (Nat.zero_le _) (firstP_le _ _)
  · have hl : t < l.length := Nat.lt_of_lt_of_le ht (firstP_le _ _)
    simp only [dif_pos hl]
    exact firstP_lt (lessP p) l t hl ht
  · by_cases hl : t < l.length
    · simp only [dif_pos hl]
      have h0 := firstP_at (lessP p) l (by omega)
      cases hc : Op.bytesLess l[t].toList p.toList
      · rfl
      · rw [lessP_mono h _ t ht hl hc] at h0; cases h0
    · simp only [dif_neg hl]
      exact bl_irr _
theorem mem_first {l : List ByteArray} {p : ByteArray} (h : IncTo l l.length) : p ∈ l ↔ ∃ hk : firstP (lessP p) l < l.length, l[firstP (lessP p) l] = p := by
  constructor
  · intro hm
    obtain ⟨j, hj, rfl⟩ := List.getElem_of_mem hm
    have e : firstP (lessP l[j]) l = j := by
      refine firstP_eq _ _ _ (by omega) (fun i hi hij => inc_lt2 h i j hij hj) (fun _ => bl_irr _)
    exact ⟨by rw [e]; exact hj, by simp only [e]⟩
  · rintro ⟨hk, e⟩
    exact e ▸ List.getElem_mem hk
def hasB (l : List ByteArray) (p : ByteArray) : Bool := l.any fun s => decide (s = p)
theorem hasB_iff {l : List ByteArray} {p : ByteArray} : hasB l p = true ↔ p ∈ l := by
  unfold hasB
  rw [List.any_eq_true]
  constructor
  · rintro ⟨s, hs, e⟩; exact of_decide_eq_true e ▸ hs
  · intro h; exact ⟨p, h, decide_eq_true rfl⟩
theorem hasB_true {l : List ByteArray} {p : ByteArray} (h : IncTo l l.length) (hk : firstP (lessP p) l < l.length) (e : l[firstP (lessP p) l] = p) : true = hasB l p :=
  (hasB_iff.2 ((mem_first h).2 ⟨hk, e⟩)).symm
theorem hasB_false {l : List ByteArray} {p : ByteArray} (h : IncTo l l.length) (hn : ∀ hk : firstP (lessP p) l < l.length, l[firstP (lessP p) l] ≠ p) : false = hasB l p := by
  cases hb : hasB l p
  · rfl
  · obtain ⟨hk, e⟩ := (mem_first h).1 (hasB_iff.1 hb)
    exact absurd e (hn hk)
theorem hasB_at {l : List ByteArray} {p : ByteArray} (h : IncTo l l.length) (hb : hasB l p = true) : ∃ hk : firstP (lessP p) l < l.length, l[firstP (lessP p) l] = p := (mem_first h).1 (hasB_iff.1 hb)
theorem bs_any (v : Value) (l : List ByteArray) (p : ByteArray) (w : World) (hv : Strs w v l) (hi : IncTo l l.length) (hn : l.length ≤ 1048576) :
    Calls Try.prog 62 #[v, .string p] w fun e w' => e = .returned (.tuple #[.int .i64 (firstP (lessP p) l : Nat), .bool (hasB l p)]) ∧ ∃ q, w' = w.drewN q := by
  obtain ⟨a, c, rfl, hl, hc, hcs⟩ := hv.shape
  by_cases h0 : l.length = 0
  · obtain rfl : l = [] := List.eq_nil_of_length_eq_zero h0
    refine (Any2.slices_BinarySearch_string_empty Try.laysNm226 a c p w : Calls Try.prog 62 #[.slice a 0 c, .string p] w _).mono ?_
    rintro e w' ⟨rfl, rfl⟩
    exact ⟨rfl, 0, rfl⟩
  · obtain ⟨b, off, rfl, -, -⟩ := hcs 0 (by omega)
    refine (Any2.slices_BinarySearch_string Try.laysNm226 b off l.length c (fun t => if ht : t < l.length then l[t] else p) p w (by omega) ?_ : Calls Try.prog 62 #[.slice (some ⟨b, off, none⟩) l.length c, .string p] w _).mono ?_
    · intro j hj
      obtain ⟨b', off', e, hcell, -⟩ := hcs j hj
      cases e
      simp only [dif_pos hj]
      exact hcell
    · rintro e w' ⟨rfl, q, hw⟩
      refine ⟨?_, q, hw⟩
      rw [bs_is hi]
      by_cases hk : firstP (lessP p) l < l.length
      · by_cases e : l[firstP (lessP p) l] = p
        · rw [← hasB_true hi hk e, decide_eq_true]; exact ⟨hk, by simp only [dif_pos hk]; exact e⟩
        · rw [← hasB_false hi (fun _ => e), decide_eq_false]; rintro ⟨_, e2⟩; simp only [dif_pos hk] at e2; exact e e2
      · rw [← hasB_false hi (fun hk2 => absurd hk2 hk), decide_eq_false]; rintro ⟨hk2, _⟩; exact hk hk2
attribute [local irreducible] Calls
set_option maxHeartbeats 1000000 in
theorem l05First_any (v : Value) (l : List ByteArray) (p : ByteArray) (w : World) (hv : Strs w v l) (hn : l.length ≤ 1048576) :
    Calls Try.prog 57 #[v, .string p] w fun e w' => e = .returned (.int .i64 (firstP (lessP p) l : Nat)) ∧ Below w.heap.size w w' := by
  obtain ⟨a, c, rfl, hl, hc, hcs⟩ := hv.shape
  unfold maxLen at hc
  clear hv
  go_enter Try.func57, Try.ntmps57
  go_wp2
  go_loopw [5] (fun i wr => ∃ k : Nat, k ≤ l.length ∧ i = .int .i64 (k : Int) ∧ (∀ j, (h : j < l.length) → j < k → lessP p l[j] = true) ∧ Below w.heap.size w wr) (fun i _ => l.length - (intOf i).toNat)
  case atStart => exact ⟨0, by omega, rfl, fun j h hj => by omega, Below.refl _ _⟩
  case round =>
    obtain ⟨k, hk, rfl, hb, hbl⟩ := hrel
    have Hb := Lib.hid hb
    clear hb
    by_cases hlt : k < l.length
    · obtain ⟨b1, o1, rfl, hc1, hs1⟩ := hcs k hlt
      have hw1 : wr.cell? ⟨b1, o1 + k, none⟩ = some (.string l[k]) := (hbl.cell (cell_lt hc1)).trans hc1
      clear hcs hc1
      cases hd : Op.bytesLess l[k].toList p.toList
      · have Hd := Lib.hid hd
        go_wp2
        go_ret
        exact ⟨ret_int (by rw [firstP_eq (lessP p) l k hk Hb.out (fun _ => Hd.out)]), hbl⟩
      · have Hd := Lib.hid hd
        go_wp2
        go_roundw
        case rel =>
          refine ⟨k + 1, by omega, by go_num, fun j h hj => ?_, hbl⟩
          rcases Nat.lt_succ_iff_lt_or_eq.1 hj with h2 | rfl
          · exact Hb.out j h h2
          · exact Hd.out
        case measure => simp [intOf]; omega
    · have hd0 : decide ((k : Int) < (l.length : Int)) = false := by rw [decide_eq_false_iff_not]; omega
      go_wp2
      go_ret
      exact ⟨ret_int (by rw [firstP_eq (lessP p) l k hk Hb.out (fun h => absurd h hlt)]), hbl⟩
theorem ext_take (s : ByteArray) (n : Nat) : (s.extract 0 n).data.toList = s.data.toList.take n := by
  rw [ByteArray.data_extract, Array.toList_extract, List.extract_eq_take_drop]; simp
theorem begP_iff {s p : ByteArray} : begP p s = true ↔ p.size ≤ s.size ∧ s.extract 0 p.size = p := by
  have hp : p.data.toList.length = p.size := Array.length_toList
  have hs : s.data.toList.length = s.size := Array.length_toList
  unfold begP Lib.hasPrefix
  rw [List.isPrefixOf_iff_prefix, List.prefix_iff_eq_take, hp]
  constructor
  · intro h
    have hl := congrArg List.length h
    rw [List.length_take, hp, hs] at hl
    refine ⟨by omega, ?_⟩
    apply ByteArray.ext
    apply Array.toList_inj.1
    rw [ext_take]
    exact h.symm
  · rintro ⟨_, h⟩
    rw [← ext_take, h]
theorem begP_yes {s p : ByteArray} (h0 : p.size ≤ s.size) (h : ((s.extract 0 p.size).toList == p.toList) = true) : true = begP p s := (begP_iff.2 ⟨h0, bytes_eq_of h⟩).symm
theorem begP_no {s p : ByteArray} (h : ((s.extract 0 p.size).toList == p.toList) = false) : false = begP p s := by
  cases hb : begP p s
  · rfl
  · exact absurd (begP_iff.1 hb).2 (bytes_ne_of h)
theorem begP_short {s p : ByteArray} (h : ¬ p.size ≤ s.size) : false = begP p s := by
  cases hb : begP p s
  · rfl
  · exact absurd (begP_iff.1 hb).1 h
set_option maxHeartbeats 1000000 in
theorem l05Begins_any (s p : ByteArray) (w : World) (_hs : s.size ≤ maxLen) (_hp : p.size ≤ maxLen) :
    Calls Try.prog 58 #[.string s, .string p] w fun e w' => e = .returned (.bool (begP p s)) ∧ w = w' := by
  unfold maxLen at _hs _hp
  by_cases h0 : p.size ≤ s.size
  · cases hd : ((s.extract 0 p.size).toList == p.toList)
    · have Hd := Lib.hid hd
      go_enter Try.func58, Try.ntmps58
      go_wp2
      go_ret
      exact ⟨ret_bool (begP_no Hd.out), rfl⟩
    · have Hd := Lib.hid hd
      go_enter Try.func58, Try.ntmps58
      go_wp2
      go_ret
      exact ⟨ret_bool (begP_yes h0 Hd.out), rfl⟩
  · have hd : decide ((p.size : Int) ≤ (s.size : Int)) = false := by rw [decide_eq_false_iff_not]; omega
    have H0 := Lib.hid h0
    clear h0
    go_enter Try.func58, Try.ntmps58
    go_wp2
    go_ret
    exact ⟨ret_bool (begP_short H0.out), rfl⟩
/-- How many words begin with p, from the first that is not less. -/
def prefN (l : List ByteArray) (p : ByteArray) : Nat := firstP (begP p) (l.drop (firstP (lessP p) l))
theorem prefN_le (l : List ByteArray) (p : ByteArray) : firstP (lessP p) l + prefN l p ≤ l.length := by
  have h1 := firstP_le (lessP p) l
  have h2 := firstP_le (begP p) (l.drop (firstP (lessP p) l))
  rw [List.length_drop] at h2
  unfold prefN
  omega
theorem prefN_is {l : List ByteArray} {p : ByteArray} {m : Nat} (hm : firstP (lessP p) l + m ≤ l.length) (h1 : ∀ j, (h : firstP (lessP p) l + j < l.length) → j < m → begP p l[firstP (lessP p) l + j] = true)
    (h2 : (h : firstP (lessP p) l + m < l.length) → begP p l[firstP (lessP p) l + m] = false) : prefN l p = m := by
  unfold prefN
  refine firstP_eq _ _ _ (by rw [List.length_drop]; omega) (fun j h hj => ?_) (fun h => ?_)
  · rw [List.getElem_drop]; exact h1 j (by rw [List.length_drop] at h; omega) hj
  · rw [List.getElem_drop]; exact h2 (by rw [List.length_drop] at h; omega)
def preV (l : List ByteArray) (p : ByteArray) : Int × Int × Int := if lexB l then (firstP (lessP p) l, prefN l p, 0) else (0, 0, 1)
theorem preV_no {l : List ByteArray} (h : lexB l = false) (p : ByteArray) : preV l p = (0, 0, 1) := by simp [preV, h]
theorem preV_yes {l : List ByteArray} (h : lexB l = true) (p : ByteArray) : preV l p = (((firstP (lessP p) l : Nat) : Int), ((prefN l p : Nat) : Int), 0) := by simp [preV, h]
theorem ret_iii {n m k : Int} {r : Int × Int × Int} (h : r = (n, m, k)) : Ending.returned (.tuple #[.int .i64 n, .int .i64 m, .int .i64 k]) = .returned (.tuple #[.int .i64 r.1, .int .i64 r.2.1, .int .i64 r.2.2]) := by rw [h]
theorem ret_ii2 {n m n' m' : Int} (h : n = n') (h2 : m = m') : Ending.returned (.tuple #[.int .i64 n, .int .i64 m]) = .returned (.tuple #[.int .i64 n', .int .i64 m']) := by rw [h, h2]
set_option maxHeartbeats 2000000 in
theorem specPrefixRange_any (v : Value) (l : List ByteArray) (p : ByteArray) (w : World) (hv : LexR w v l) (hp : p.size ≤ 1048576) :
    Calls Try.prog 27 #[v, .string p] w fun e w' => e = .returned (.tuple #[.int .i64 (preV l p).1, .int .i64 (preV l p).2.1, .int .i64 (preV l p).2.2]) ∧ Below w.heap.size w w' := by
  obtain ⟨s, rfl, hs⟩ := hv
  obtain ⟨a, c, rfl, hl, hc, hcs0⟩ := hs.shape
  unfold maxLen at hc
  have hb0 : Below w.heap.size w (w.alloc (.cells #[.slice a l.length c] 27)) := (Below.refl _ _).alloc (Nat.le_refl _) _
  have hc0 := cell_newi w #[.slice a l.length c] 27 0 (.slice a l.length c) rfl
  have hs0 := hs.below hb0
  have hmp : p.size ≤ maxLen := by unfold maxLen; omega
  clear hcs0
  cases hlex : lexB l
  · have H := Lib.hid hlex
    go_enter Try.func27, Try.ntmps27
    go_wp2_with fail
    refine (l05Ok_any w.heap.size _ l _ hc0 hs0).mono ?_
    rw [hlex]
    rintro e w1 ⟨rfl, q, rfl⟩
    go_wp2
    go_ret3
    exact ⟨ret_iii (preV_no H.out p), below_drewN hb0 _⟩
  · have H := Lib.hid hlex
    have hl200 := lexB_len hlex
    go_enter Try.func27, Try.ntmps27
    go_wp2_with fail
    refine (l05Ok_any w.heap.size _ l _ hc0 hs0).mono ?_
    rw [hlex]
    rintro e w1 ⟨rfl, q, hw1⟩
    have hb1 : Below w.heap.size w w1 := by rw [hw1]; exact below_drewN hb0 _
    have hc1 : w1.cell? ⟨w.heap.size, 0, none⟩ = some (.slice a l.length c) := by rw [hw1]; exact hc0
    have hs1 := hs.below hb1
    clear hw1 hc0 hs hs0 hb0 hlex
    go_wp2_with fail
    refine (l05First_any _ l p _ hs1 (by omega)).mono ?_
    rintro e w2 ⟨rfl, hb2⟩
    have hc2 := cell_below hb2 hc1
    have Hs2 := Lib.hid (hs1.below hb2)
    have HB2 := Lib.hid (hb1.trans (hb2.mono hb1.size))
    have hf := firstP_le (lessP p) l
    clear hb1 hc1 hs1 hb2
    go_wp2
    go_loopw [8, 9] (fun n i wr => ∃ m : Nat, firstP (lessP p) l + m ≤ l.length ∧ i = .int .i64 ((firstP (lessP p) l : Nat) + (m : Int)) ∧ n = .int .i64 (m : Int) ∧ wr = w2 ∧
      (∀ j, (h : firstP (lessP p) l + j < l.length) → j < m → begP p l[firstP (lessP p) l + j] = true)) (fun n _ _ => l.length - (intOf n).toNat)
    case atStart => exact ⟨0, by omega, by simp, rfl, rfl, fun j h hj => by omega⟩
    case round =>
      obtain ⟨m, hm, rfl, rfl, rfl, hb⟩ := hrel
      have Hb := Lib.hid hb
      clear hb
      have hcell := hc2
      obtain ⟨a', c', e1, -, -, hcs⟩ := Hs2.out.shape
      injection e1 with e1 e2 e3
      subst e1
      subst e3
      by_cases hlt : firstP (lessP p) l + m < l.length
      · obtain ⟨b1, o1, rfl, hc1, hs1⟩ := hcs _ hlt
        have hltI : ((firstP (lessP p) l : Nat) : Int) + (m : Int) < (l.length : Int) := by omega
        have h0I : (0 : Int) ≤ ((firstP (lessP p) l : Nat) : Int) + (m : Int) := by omega
        clear hcs e2
        have htn : (((firstP (lessP p) l : Nat) : Int) + (m : Int)).toNat = firstP (lessP p) l + m := by omega
        cases hd : begP p l[firstP (lessP p) l + m]
        · have Hd := Lib.hid hd
          go_wp2_with fail
          refine (l05Begins_any _ p _ hs1 hmp).mono ?_
          rw [Hd.out]
          rintro e w3 ⟨rfl, rfl⟩
          go_wp2
          go_ret3
          exact ⟨ret_iii (by rw [preV_yes H.out p, prefN_is hm Hb.out (fun _ => Hd.out)]), HB2.out⟩
        · have Hd := Lib.hid hd
          go_wp2_with fail
          refine (l05Begins_any _ p _ hs1 hmp).mono ?_
          rw [Hd.out]
          rintro e w3 ⟨rfl, rfl⟩
          go_wp2
          go_roundw
          case rel =>
            refine ⟨m + 1, by omega, by go_num, by go_num, trivial, fun j h hj => ?_⟩
            rcases Nat.lt_succ_iff_lt_or_eq.1 hj with h2 | rfl
            · exact Hb.out j h h2
            · exact Hd.out
          case measure => simp [intOf]; omega
      · have hd0 : decide (((firstP (lessP p) l : Nat) : Int) + (m : Int) < (l.length : Int)) = false := by rw [decide_eq_false_iff_not]; omega
        clear hcs e2
        go_wp2
        go_ret3
        exact ⟨ret_iii (by rw [preV_yes H.out p, prefN_is hm Hb.out (fun h => absurd h hlt)]), HB2.out⟩
set_option maxHeartbeats 2000000 in
theorem prefixRange_any (v : Value) (l : List ByteArray) (p : ByteArray) (w : World) (hv : Strs w v l) (hlex : lexB l = true) (_hp : p.size ≤ 1048576) :
    Calls Try.prog 59 #[v, .string p] w fun e w' => e = .returned (.tuple #[.int .i64 (firstP (lessP p) l : Nat), .int .i64 (prefN l p : Nat)]) ∧ Below w.heap.size w w' := by
  have H := Lib.hid hlex
  have hl200 := lexB_len hlex
  have HV := Lib.hid hv
  obtain ⟨a, c, rfl, hl, hc, hcs⟩ := hv.shape
  unfold maxLen at hc
  have hf := firstP_le (lessP p) l
  clear hv hlex
  go_enter Try.func59, Try.ntmps59
  go_wp2_with fail
  refine (bs_any _ l p _ HV.out (lexB_inc H.out) (by omega)).mono ?_
  rintro e w1 ⟨rfl, q, hw1⟩
  have HB := Lib.hid (show Below w.heap.size w w1 by rw [hw1]; exact below_drewN (Below.refl _ _) q)
  clear hw1
  go_wp2
  go_loopw [8] (fun i wr => ∃ m : Nat, firstP (lessP p) l + m ≤ l.length ∧ i = .int .i64 ((firstP (lessP p) l : Nat) + (m : Int)) ∧ Below w.heap.size w wr ∧
    (∀ j, (h : firstP (lessP p) l + j < l.length) → j < m → begP p l[firstP (lessP p) l + j] = true)) (fun i _ => l.length - (intOf i).toNat)
  case atStart => exact ⟨0, by omega, by simp, HB.out, fun j h hj => by omega⟩
  case round =>
    obtain ⟨m, hm, rfl, hbl, hb⟩ := hrel
    have Hb := Lib.hid hb
    clear hb
    by_cases hlt : firstP (lessP p) l + m < l.length
    · obtain ⟨b1, o1, rfl, hc1, hs1⟩ := hcs _ hlt
      have hw2 := (hbl.cell (p := ⟨b1, o1 + (firstP (lessP p) l + m), none⟩) (cell_lt hc1)).trans hc1
      have hltI : ((firstP (lessP p) l : Nat) : Int) + (m : Int) < (l.length : Int) := by omega
      have h0I : (0 : Int) ≤ ((firstP (lessP p) l : Nat) : Int) + (m : Int) := by omega
      have htn : (((firstP (lessP p) l : Nat) : Int) + (m : Int)).toNat = firstP (lessP p) l + m := by omega
      clear hcs hc1
      have HBl := Lib.hid hbl
      clear hbl
      cases hd : begP p l[firstP (lessP p) l + m]
      · have Hd := Lib.hid hd
        go_wp2_with fail
        refine (Try.strings_HasPrefix _ p _).mono ?_
        rw [show Lib.hasPrefix l[firstP (lessP p) l + m].data.toList p.data.toList = false from Hd.out]
        rintro e w3 ⟨rfl, rfl⟩
        go_wp2
        go_ret2
        exact ⟨ret_ii2 rfl (by rw [prefN_is hm Hb.out (fun _ => Hd.out)]; omega), HBl.out⟩
      · have Hd := Lib.hid hd
        go_wp2_with fail
        refine (Try.strings_HasPrefix _ p _).mono ?_
        rw [show Lib.hasPrefix l[firstP (lessP p) l + m].data.toList p.data.toList = true from Hd.out]
        rintro e w3 ⟨rfl, rfl⟩
        go_wp2
        go_roundw
        case rel =>
          refine ⟨m + 1, by omega, by go_num, HBl.out, fun j h hj => ?_⟩
          rcases Nat.lt_succ_iff_lt_or_eq.1 hj with h2 | rfl
          · exact Hb.out j h h2
          · exact Hd.out
        case measure => simp [intOf]; omega
    · have hd0 : decide (((firstP (lessP p) l : Nat) : Int) + (m : Int) < (l.length : Int)) = false := by rw [decide_eq_false_iff_not]; omega
      clear hcs
      go_wp2
      go_ret2
      exact ⟨ret_ii2 rfl (by rw [prefN_is hm Hb.out (fun h => absurd h hlt)]; omega), hbl⟩
set_option maxHeartbeats 1000000 in
theorem implPrefixRange_any (v : Value) (l : List ByteArray) (p : ByteArray) (w : World) (hv : LexR w v l) (hp : p.size ≤ 1048576) :
    Calls Try.prog 28 #[v, .string p] w fun e w' => e = .returned (.tuple #[.int .i64 (preV l p).1, .int .i64 (preV l p).2.1, .int .i64 (preV l p).2.2]) ∧ Below w.heap.size w w' := by
  obtain ⟨s, rfl, hs⟩ := hv
  obtain ⟨a, c, rfl, -, -, -⟩ := hs.shape
  have hb0 : Below w.heap.size w (w.alloc (.cells #[.slice a l.length c] 27)) := (Below.refl _ _).alloc (Nat.le_refl _) _
  have hs0 := hs.below hb0
  have hc0 := cell_newi w #[.slice a l.length c] 27 0 (.slice a l.length c) rfl
  cases hlex : lexB l
  · have H := Lib.hid hlex
    go_enter Try.func28, Try.ntmps28
    go_wp2_with fail
    refine (implValidLexicon_any _ l _ ⟨_, rfl, hs0⟩).mono ?_
    rw [hlex]
    rintro e w1 ⟨rfl, hb1⟩
    go_wp2
    go_ret3
    exact ⟨ret_iii (preV_no H.out p), hb0.trans (hb1.mono hb0.size)⟩
  · have H := Lib.hid hlex
    go_enter Try.func28, Try.ntmps28
    go_wp2_with fail
    refine (implValidLexicon_any _ l _ ⟨_, rfl, hs0⟩).mono ?_
    rw [hlex]
    rintro e w1 ⟨rfl, hb1⟩
    have hs1 := hs0.below hb1
    have hc1 := cell_below hb1 hc0
    have hbb := hb0.trans (hb1.mono hb0.size)
    clear hb1 hc0 hb0 hs0 hlex hs
    go_wp2_with fail
    refine (prefixRange_any _ l p _ hs1 H.out hp).mono ?_
    rintro e w2 ⟨rfl, hb2⟩
    go_wp2
    go_ret3
    exact ⟨ret_iii (preV_yes H.out p), hbb.trans (hb2.mono hbb.size)⟩
end Go.Proofs.Ytlompohfibcjfaa
