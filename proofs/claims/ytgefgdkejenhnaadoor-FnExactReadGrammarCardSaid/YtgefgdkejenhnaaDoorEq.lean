/- Contracts of the helpers of the laws on []string: eqStringS, markText, markStringS, heldStringS. No condition but the readings. -/
import Derived.Test.YtgefgdkejenhnaaDoorB
import Derived.BigQuiet
import Derived.Deep.QuietTactic
import Derived.Deep.RegionHeld3
namespace Go.Proofs.YtgefgdkejenhnaaDoor
open Go.RowKit

theorem bytes_beq (a b : ByteArray) : (a.toList == b.toList) = decide (a = b) := by
  rw [ByteArray.toList_eq, ByteArray.toList_eq, Bool.eq_iff_iff, beq_iff_eq, decide_eq_true_iff]
  constructor
  · intro h; cases a; cases b; simp at h; simp [h]
  · intro h; rw [h]
theorem bytes_ne_of {a b : ByteArray} (h : (a.toList == b.toList) = false) : a ≠ b := by
  rw [bytes_beq] at h; simpa using h
theorem bytes_eq_of {a b : ByteArray} (h : (a.toList == b.toList) = true) : a = b := by
  rw [bytes_beq] at h; simpa using h

theorem take_eq_succ {α : Type} {l1 l2 : List α} {k : Nat} (h : l1.take k = l2.take k) (h1 : k < l1.length) (h2 : k < l2.length) (h3 : l1[k] = l2[k]) : l1.take (k + 1) = l2.take (k + 1) := by
  rw [List.take_succ_eq_append_getElem h1, List.take_succ_eq_append_getElem h2, h, h3]

set_option maxHeartbeats 400000 in
theorem eqStringS_any (a b : Value) (l1 l2 : List ByteArray) (w : World) (ha : Strs w a l1) (hb : Strs w b l2) :
    Calls Tryd.prog 45 #[a, b] w fun e w' => e = .returned (.bool (decide (l1 = l2))) ∧ Below w.heap.size w w' := by
  obtain ⟨a1, c1, rfl, h1, h1', h1c⟩ := ha.shape
  obtain ⟨a2, c2, rfl, h2, h2', h2c⟩ := hb.shape
  clear ha hb
  unfold maxLen at h1' h2'
  by_cases hlen : l1.length = l2.length
  · have Hlen := Lib.hid hlen
    have hl0 : ((l1.length : Int) != (l2.length : Int)) = false := by rw [bne_eq_false_iff_eq]; omega
    clear hlen
    go_enter Tryd.func45, Tryd.ntmps45
    go_wp2
    go_loopw [5] (fun i wr => ∃ k : Nat, k ≤ l1.length ∧ i = .int .i64 k ∧ l1.take k = l2.take k ∧ Below w.heap.size w wr) (fun i _ => l1.length - (intOf i).toNat)
    case atStart => exact ⟨0, Nat.zero_le _, rfl, rfl, Below.refl _ _⟩
    case round =>
      obtain ⟨k, hk, rfl, heq, hbl⟩ := hrel
      have Heq := Lib.hid heq; clear heq
      by_cases hlt : k < l1.length
      · obtain ⟨b1, o1, rfl, hc1, hs1⟩ := h1c k hlt
        obtain ⟨b2, o2, rfl, hc2, hs2⟩ := h2c k (by have := Hlen.out; omega)
        have hw1 : wr.cell? ⟨b1, o1 + k, none⟩ = some (.string l1[k]) := (hbl.cell (cell_lt hc1)).trans hc1
        have hw2 : wr.cell? ⟨b2, o2 + k, none⟩ = some (.string (l2[k]'(by have := Hlen.out; omega))) := (hbl.cell (cell_lt hc2)).trans hc2
        have hlt2 : k < l2.length := by have := Hlen.out; omega
        clear hc1 hc2 h1c h2c hs1 hs2
        cases hd : (l1[k].toList == l2[k].toList)
        · go_wp2
          go_quiet (fail)
          go_wp2
          go_ret
          exact ⟨ret_bool (by rw [eq_comm, decide_eq_false_iff_not]; rintro rfl; exact bytes_ne_of hd rfl), below_drewN hbl _⟩
        · go_wp2
          go_quiet (fail)
          go_wp2
          go_roundw
          case rel => exact ⟨k + 1, by omega, by go_num, take_eq_succ Heq.out hlt hlt2 (bytes_eq_of hd), below_drewN hbl _⟩
          case measure => simp [intOf]; omega
      · go_wp2
        go_ret
        refine ⟨ret_bool ?_, hbl⟩
        rw [eq_comm, decide_eq_true_iff]
        have h := Heq.out
        rwa [List.take_of_length_le (by omega), List.take_of_length_le (by have := Hlen.out; omega)] at h
  · have hl0 : ((l1.length : Int) != (l2.length : Int)) = true := by rw [bne_iff_ne]; omega
    have H := Lib.hid hlen
    clear hlen
    go_enter Tryd.func45, Tryd.ntmps45
    go_wp2
    go_ret
    exact ⟨ret_bool (by rw [eq_comm, decide_eq_false_iff_not]; rintro rfl; exact H.out rfl), Below.refl _ _⟩

/-- The decimal digits of a number, as bytes; none for 0. -/
def mdig (n : Nat) : List UInt8 := if _h : n = 0 then [] else mdig (n / 10) ++ [UInt8.ofNat (48 + n % 10)]
termination_by n
decreasing_by omega
theorem mdig_zero : mdig 0 = [] := by unfold mdig; simp
theorem mdig_pos {n : Nat} (h : 0 < n) : mdig n = mdig (n / 10) ++ [UInt8.ofNat (48 + n % 10)] := by
  rw [mdig]; simp [Nat.ne_of_gt h]
theorem mdig_len (k : Nat) : ∀ n, n < 10 ^ k → (mdig n).length ≤ k := by
  induction k with
  | zero => intro n h; obtain rfl : n = 0 := by simp at h; exact h
            simp [mdig_zero]
  | succ k ih =>
    intro n h
    by_cases h0 : n = 0
    · subst h0; simp [mdig_zero]
    · rw [mdig_pos (by omega)]; have := ih (n / 10) (by rw [Nat.pow_succ] at h; omega); simp; omega
theorem mdig_le (n : Nat) (h : (n : Int) ≤ 9223372036854775807) : (mdig n).length ≤ 19 := mdig_len 19 n (by omega)

/-- 'string([]byte{c})' -/
@[go_sem] theorem conv_one (w : World) (n : Int) : (convert 89 9 (.slice (some ⟨w.heap.size, 0, none⟩) 1 1)).run Tryd.prog (w.alloc (.cells #[.int .u8 n] 5)) =
    .ok (.string ⟨#[UInt8.ofNat n.toNat]⟩) (w.alloc (.cells #[.int .u8 n] 5)) := by
  rw [run_convert_bytes_string _ _ _ 5 _ _ _ Tryd.underlying89 Tryd.underlying5 Tryd.underlying9]
  have hl := run_loadCells_list (P := Tryd.prog) (w.alloc (.cells #[.int .u8 n] 5)) ⟨w.heap.size, 0, none⟩ [.int .u8 n] (fun j v hj => by
    match j, hj with
    | 0, hj => simp at hj; subst hj; simp [Addr.add, World.cell?_alloc_mark])
  rw [run_bytesToString _ _ 1 1 [n] (by simpa using hl)]
  rfl

/-- The text of a mark. -/
def mtext (n : Int) : ByteArray := if n ≤ 0 then ⟨#[109, 48]⟩ else ⟨(109 :: mdig n.toNat).toArray⟩

theorem markText_any (n : Int) (w : World) (hn : n ≤ 9223372036854775807) :
    Calls Tryd.prog 53 #[.int .i64 n] w fun e w' => e = .returned (.string (mtext n)) ∧ Below w.heap.size w w' := by
  by_cases h0 : n ≤ 0
  · go_enter Tryd.func53, Tryd.ntmps53
    go_wp2
    go_ret
    exact ⟨ret_str (by rw [mtext, if_pos h0]), Below.refl _ _⟩
  · obtain ⟨m, rfl⟩ := Int.eq_ofNat_of_zero_le (show 0 ≤ n by omega)
    have hm : 0 < m := by omega
    clear h0
    go_enter Tryd.func53, Tryd.ntmps53
    go_wp2
    go_loopw [0, 3] (fun t out wr => ∃ (k : Nat) (o : List UInt8), k ≤ 9223372036854775807 ∧ t = .int .i64 k ∧ out = .string ⟨o.toArray⟩ ∧ mdig k ++ o = mdig m ∧ Below w.heap.size w wr) (fun t _ _ => (intOf t).toNat)
    case atStart => exact ⟨m, [], by omega, rfl, rfl, by simp, Below.refl _ _⟩
    case round =>
      obtain ⟨k, o, hk, rfl, rfl, ho, hbl⟩ := hrel
      have hol : o.length ≤ 19 := by have := mdig_le m hn; have h2 := congrArg List.length ho; simp at h2; omega
      have Ho := Lib.hid ho; clear ho
      by_cases hlt : 0 < k
      · go_wp2
        go_roundw
        case rel => exact ⟨k / 10, UInt8.ofNat (48 + k % 10) :: o, by omega, by go_num, by rw [show (#[48 + UInt8.ofNat (k % 10)] : Array UInt8) = [48 + UInt8.ofNat (k % 10)].toArray from rfl, ba_append]; simp [UInt8.ofNat_add], by rw [← Ho.out, mdig_pos hlt]; simp, hbl.alloc hbl.size _⟩
        case measure => simp [intOf]; omega
      · go_wp2
        go_ret
        obtain rfl : k = 0 := by omega
        have h := Ho.out
        rw [mdig_zero, List.nil_append] at h
        exact ⟨ret_str (by rw [mtext, if_neg (by omega), h]; simp; rfl), hbl⟩

/-- n marks from k on. -/
def marks (k : Int) (n : Nat) : List ByteArray := (List.range n).map fun (i : Nat) => mtext (k + (i : Int))
theorem marks_length (k : Int) (n : Nat) : (marks k n).length = n := by simp [marks]
theorem mtext_le (k : Int) (h : k ≤ 9223372036854775807) : (mtext k).size ≤ maxLen := by
  unfold mtext
  split
  · simp [ByteArray.size, maxLen]
  · have := mdig_le k.toNat (by omega)
    simp [ByteArray.size, maxLen]; omega

/-- The first j of the strings are marks. -/
def marked (k : Int) (l : List ByteArray) (j : Nat) : List ByteArray := marks k j ++ l.drop j
theorem marked_zero (k : Int) (l : List ByteArray) : marked k l 0 = l := by simp [marked, marks]
theorem marked_all (k : Int) (l : List ByteArray) : marked k l l.length = marks k l.length := by simp [marked]
theorem marked_length (k : Int) (l : List ByteArray) (j : Nat) (_h : j ≤ l.length) : (marked k l j).length = l.length := by simp [marked, marks]; omega
theorem marked_get (k : Int) (l : List ByteArray) (j : Nat) (h : j < l.length) : (marked k l j)[j]? = some l[j] := by
  unfold marked
  rw [List.getElem?_append_right (by simp [marks]), List.getElem?_drop]; simp [marks, h]
theorem marked_succ (k : Int) (l : List ByteArray) (j : Nat) (h : j < l.length) : (marked k l j).set j (mtext (k + j)) = marked k l (j + 1) := by
  unfold marked
  rw [List.set_append_right _ _ (by simp [marks])]
  simp only [marks_length, Nat.sub_self]
  rw [List.drop_eq_getElem_cons h, List.set_cons_zero]
  simp [marks, List.range_succ]

set_option maxHeartbeats 400000 in
theorem markStringS_any (v : Value) (l : List ByteArray) (k : Int) (lo hi : Nat) (w : World) (hv : StrsW w lo hi v l) (hk0 : 0 ≤ k) (hk1 : k + l.length ≤ 9223372036854775807) :
    Calls Tryd.prog 54 #[v, .int .i64 k] w fun e w' => e = .returned (.int .i64 (k + l.length)) ∧ StrsW w' lo hi v (marks k l.length) ∧ Kept lo hi w w' := by
  obtain ⟨a, c, hve, hl, hc, -⟩ := hv.read.shape
  unfold maxLen at hc
  subst hve
  go_enter Tryd.func54, Tryd.ntmps54
  go_wp2
  go_loopw [1, 5] (fun t i wr => ∃ j : Nat, j ≤ l.length ∧ i = .int .i64 j ∧ t = .int .i64 (k + j) ∧ StrsW wr lo hi (.slice a l.length c) (marked k l j) ∧ Kept lo hi w wr) (fun _ i _ => l.length - (intOf i).toNat)
  case atStart => exact ⟨0, Nat.zero_le _, rfl, by go_num, by rw [marked_zero]; exact hv, Kept.refl _ _ _⟩
  case round =>
    obtain ⟨j, hj, rfl, rfl, hs, hkept⟩ := hrel
    clear hv
    by_cases hlt : j < l.length
    · go_wp2_with fail
      refine (markText_any _ _ (by omega)).mono ?_
      rintro e w1 ⟨rfl, hb1⟩
      have hs1 := hs.below hb1
      have hk1' := hkept.trans (Kept.of_below (lo := lo) (hi := hi) hb1)
      obtain ⟨a', c', hv', _, _, g, off, rfl, hg1, hg2, hg3, hcell, hfr, hst⟩ := hs1.1.store (j := j) (by rw [marked_length k l j hj]; omega)
      obtain ⟨rfl, -, rfl⟩ := Value.slice.inj hv'
      have hcell' : w1.cell? ⟨g, off + j, none⟩ = some (.string l[j]) := by rw [hcell, List.getElem?_map, marked_get k l j hlt]; rfl
      have Hst := Lib.hid hst
      clear hcell hst hv'
      go_wp2
      go_roundw
      case rel =>
        refine ⟨j + 1, by omega, by go_num, by go_num, ⟨?_, ?_⟩, hk1'.trans (kept_setCell hg1 hg2 _)⟩
        · have h2 := Hst.out (.string (mtext (k + j)))
          rw [marked_length k l j hj, ← List.map_set, marked_succ k l j hlt] at h2
          rwa [marked_length k l (j + 1) (by omega)]
        · intro s hsm
          rw [← marked_succ k l j hlt] at hsm
          rcases List.mem_or_eq_of_mem_set hsm with h | rfl
          · exact hs1.2 s h
          · exact mtext_le _ (by omega)
      case measure => simp [intOf]; omega
    · go_wp2
      go_ret
      obtain rfl : j = l.length := by omega
      rw [marked_all] at hs
      exact ⟨rfl, hs, hkept⟩

set_option maxHeartbeats 400000 in
theorem heldStringS_any (v : Value) (l : List ByteArray) (k : Int) (w : World) (hv : Strs w v (marks k l.length)) (hk0 : 0 ≤ k) (hk1 : k + l.length ≤ 9223372036854775807) :
    Calls Tryd.prog 55 #[v, .int .i64 k] w fun e w' => e = .returned (.int .i64 (k + l.length)) ∧ Below w.heap.size w w' := by
  obtain ⟨a, c, rfl, hl, hc, hcs⟩ := hv.shape
  unfold maxLen at hc
  rw [marks_length] at hl
  simp only [marks_length] at hcs ⊢
  clear hv
  go_enter Tryd.func55, Tryd.ntmps55
  go_wp2
  go_loopw [1, 5] (fun t i wr => ∃ j : Nat, j ≤ l.length ∧ i = .int .i64 j ∧ t = .int .i64 (k + j) ∧ Below w.heap.size w wr) (fun _ i _ => l.length - (intOf i).toNat)
  case atStart => exact ⟨0, Nat.zero_le _, rfl, by go_num, Below.refl _ _⟩
  case round =>
    obtain ⟨j, hj, rfl, rfl, hb⟩ := hrel
    by_cases hlt : j < l.length
    · obtain ⟨b, off, rfl, hcell, -⟩ := hcs j hlt
      have hcw : wr.cell? ⟨b, off + j, none⟩ = some (.string (mtext (k + j))) := by rw [hb.cell (cell_lt hcell), hcell]; simp [marks]
      have hlo : b < w.heap.size := cell_lt hcell
      have heq : ((mtext (k + j)).toList == (mtext (k + j)).toList) = true := by simp
      have hj0 : (0 : Int) ≤ (j : Int) := by omega
      have hj1 : (j : Int) < (l.length : Int) := by omega
      clear hcs hcell
      go_wp2_with fail
      go_region_held3 (fun w' => w'.cell? ⟨b, off + j, none⟩ = some (.string (mtext (k + j))) ∧ Below w.heap.size w w')
        (first | exact ⟨hcw, hb.drew⟩ | exact ⟨(hb1.cell (p := ⟨b, off + j, none⟩) (Nat.lt_of_lt_of_le hlo hb.size)).trans hcw, hb.drew.trans (hb1.mono hb.size)⟩)
        (first | (go_at_call 53; refine (markText_any _ _ (by omega)).mono ?_; rintro e w1 ⟨rfl, hb1⟩))
      have hb2 : Below w.heap.size w w1 := hb.drew.trans (hb1.mono hb.size)
      clear hcw hb1
      go_wp2
      go_roundw
      case rel => exact ⟨j + 1, by omega, by go_num, by go_num, hb2⟩
      case measure => simp [intOf]; omega
    · go_wp2
      go_ret
      obtain rfl : j = l.length := by omega
      exact ⟨rfl, hb⟩
end Go.Proofs.YtgefgdkejenhnaaDoor
