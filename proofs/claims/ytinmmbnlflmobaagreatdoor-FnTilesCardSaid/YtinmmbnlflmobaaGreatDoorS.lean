/- Splitting a text at a byte: the pure law, l01Split, strings.Split. Conditions: a text of at most 2^20 bytes; MaxLen's cell where the program asks strings.Split. -/
import Derived.Test.YtinmmbnlflmobaaGreatDoorU
import Derived.Test.YtinmmbnlflmobaaGreatDoorA
import Derived.Test.YtinmmbnlflmobaaGreatDoorFd
import Derived.Test.YtinmmbnlflmobaaGreatDoorSh
import Derived.Lib.Split
import Derived.Lib.SplitLaws
namespace Go.Proofs.YtinmmbnlflmobaaGreatDoor
open Go.RowKit
/-- The parts of a text between bytes c. -/
def splitC (c : UInt8) : List UInt8 → List (List UInt8)
  | [] => [[]]
  | b :: l => if b = c then [] :: splitC c l else match splitC c l with
    | [] => [[b]]
    | p :: ps => (b :: p) :: ps
theorem splitC_none (c : UInt8) : ∀ l : List UInt8, (∀ b ∈ l, b ≠ c) → splitC c l = [l]
  | [], _ => rfl
  | b :: l, h => by
    rw [splitC, if_neg (h b (by simp)), splitC_none c l fun x hx => h x (by simp [hx])]
theorem splitC_app (c : UInt8) : ∀ (p r : List UInt8), (∀ b ∈ p, b ≠ c) → splitC c (p ++ c :: r) = p :: splitC c r
  | [], r, _ => by simp [splitC]
  | b :: p, r, h => by
    rw [List.cons_append, splitC, if_neg (h b (by simp)), splitC_app c p r fun x hx => h x (by simp [hx])]
theorem splitC_ne (c : UInt8) : ∀ l : List UInt8, splitC c l ≠ []
  | [] => by simp [splitC]
  | b :: l => by
    rw [splitC]
    split
    · simp
    · split <;> simp
theorem splitC_snoc (c : UInt8) : ∀ l : List UInt8, splitC c (l ++ [c]) = splitC c l ++ [[]]
  | [] => by simp [splitC]
  | b :: l => by
    rw [List.cons_append, splitC, splitC, splitC_snoc c l]
    by_cases h : b = c
    · simp [h]
    · rw [if_neg h, if_neg h]
      cases hs : splitC c l with
      | nil => exact absurd hs (splitC_ne c l)
      | cons p ps => rfl
theorem splitC_len (c : UInt8) : ∀ l : List UInt8, (splitC c l).length ≤ l.length + 1
  | [] => by simp [splitC]
  | b :: l => by
    have ih := splitC_len c l
    rw [splitC]
    split
    · simp; omega
    · cases hs : splitC c l with
      | nil => simp
      | cons p ps => simp [hs] at ih ⊢; omega
theorem splitC_part (c : UInt8) : ∀ (l : List UInt8), ∀ p ∈ splitC c l, p.length ≤ l.length
  | [], p, h => by simp [splitC] at h; simp [h]
  | b :: l, p, h => by
    have ih := splitC_part c l
    rw [splitC] at h
    split at h
    · rcases List.mem_cons.1 h with rfl | h
      · simp
      · have := ih p h; simp; omega
    · cases hs : splitC c l with
      | nil => exact absurd hs (splitC_ne c l)
      | cons q ps =>
        rw [hs] at h
        rcases List.mem_cons.1 h with rfl | h
        · have := ih q (by simp [hs]); simp; omega
        · have := ih p (by simp [hs, h]); simp; omega
/-- .. as strings. -/
def baL (l : List UInt8) : ByteArray := ⟨l.toArray⟩
theorem baL_data (l : List UInt8) : (baL l).data.toList = l := rfl
theorem baL_of (s : ByteArray) : baL s.data.toList = s := rfl
theorem baL_size (l : List UInt8) : (baL l).size = l.length := by rw [← ba_sz, baL_data]
def splitW (c : UInt8) (s : ByteArray) : List ByteArray := (splitC c s.data.toList).map baL
theorem splitW_len (c : UInt8) (s : ByteArray) : (splitW c s).length ≤ s.size + 1 := by
  unfold splitW; rw [List.length_map]; have := splitC_len c s.data.toList; rwa [ba_sz] at this
theorem splitW_part {c : UInt8} {s p : ByteArray} (h : p ∈ splitW c s) : p.size ≤ s.size := by
  unfold splitW at h
  obtain ⟨l, hl, rfl⟩ := List.mem_map.1 h
  rw [baL_size]
  have := splitC_part c _ l hl
  rwa [ba_sz] at this
theorem splitW_ne (c : UInt8) (s : ByteArray) : 1 ≤ (splitW c s).length := by
  have h := splitC_ne c s.data.toList
  unfold splitW
  rw [List.length_map]
  exact List.length_pos_iff.2 h
theorem ext_mid (s : ByteArray) (a b : Nat) : (s.extract a b).data.toList = (s.data.toList.take b).drop a := by
  rw [ByteArray.data_extract, Array.toList_extract, List.extract_eq_take_drop, List.drop_take]
/-- What stands between from and i, and what is left. -/
theorem splitW_step {c : UInt8} {s : ByteArray} {a i : Nat} (hi : i < s.size) (ha : a ≤ i) (hc : s[i] = c) (hn : ∀ j, a ≤ j → j < i → (h : j < s.size) → s[j] ≠ c) :
    splitW c (s.extract a s.size) = s.extract a i :: splitW c (s.extract (i + 1) s.size) := by
  have hd : s.data.toList.drop a = (s.extract a i).data.toList ++ c :: s.data.toList.drop (i + 1) := by
    rw [ext_mid]
    have hl : i < s.data.toList.length := by rw [ba_sz]; exact hi
    have e1 : s.data.toList = s.data.toList.take i ++ c :: s.data.toList.drop (i + 1) := by
      have := List.drop_eq_getElem_cons hl
      rw [show s.data.toList[i] = c from hc] at this
      rw [← this, List.take_append_drop]
    conv => lhs; rw [e1]
    rw [List.drop_append_of_le_length (by rw [List.length_take]; omega)]
  unfold splitW
  rw [ext_drop, hd, splitC_app]
  · rw [List.map_cons, ext_drop, baL_of]
  · intro b hb
    rw [ext_mid] at hb
    obtain ⟨j, hj, rfl⟩ := List.getElem_of_mem hb
    rw [List.length_drop, List.length_take, ba_sz] at hj
    rw [List.getElem_drop, List.getElem_take]
    exact hn (a + j) (by omega) (by omega) (by omega)
theorem splitW_end {c : UInt8} {s : ByteArray} {a : Nat} (hn : ∀ j, a ≤ j → (h : j < s.size) → s[j] ≠ c) : splitW c (s.extract a s.size) = [s.extract a s.size] := by
  unfold splitW
  rw [splitC_none]
  · rfl
  · intro b hb
    rw [ext_drop] at hb
    obtain ⟨j, hj, rfl⟩ := List.getElem_of_mem hb
    rw [List.length_drop, ba_sz] at hj
    rw [List.getElem_drop]
    exact hn (a + j) (by omega) (by omega)
theorem ext_all (s : ByteArray) : s.extract 0 s.size = s := by
  apply ba_inj; rw [ext_drop]; rfl
/-- The shelf's own parts are these. -/
theorem splitB_is (c : UInt8) : ∀ (n : Nat) (s : ByteArray), s.size ≤ n → Lib.splitB ⟨#[c]⟩ 0 (Lib.countB s ⟨#[c]⟩) s = splitW c s
  | n, s, hn => by
    have hone : (⟨#[c]⟩ : ByteArray).data.toList = [c] := rfl
    have hiB : Lib.indexB s ⟨#[c]⟩ = Lib.indexByte s.data.toList c := by
      show Lib.index s.data.toList [c] = _
      rw [Lib.index_one]
    rcases indexByte_spec s.data.toList c with ⟨h1, h2⟩ | ⟨k, hk, h1, h2, h3⟩
    · have hi : Lib.index s.data.toList [c] = -1 := by rw [Lib.index_one]; exact h1
      have hcB : Lib.countB s ⟨#[c]⟩ = 0 := Lib.count_miss hi
      rw [hcB, Lib.splitB_zero]
      have := splitW_end (c := c) (s := s) (a := 0) (fun j _ hj => h2 j (by rw [ba_sz]; exact hj))
      rw [ext_all] at this
      rw [this]
    · have hi : Lib.index s.data.toList [c] = (k : Int) := by rw [Lib.index_one]; exact h1
      rw [ba_sz] at hk
      have hcB : Lib.countB s ⟨#[c]⟩ = Lib.countB (s.extract (k + 1) s.size) ⟨#[c]⟩ + 1 := by
        show Lib.count s.data.toList [c] = Lib.count (s.extract (k + 1) s.size).data.toList [c] + 1
        rw [Lib.count_hit (by simp) hi, ext_drop]; simp [Nat.add_comm]
      have hnm : ¬ (Lib.indexB s ⟨#[c]⟩ == -1) = true := by rw [hiB, h1]; simp
      have htn : (Lib.indexB s ⟨#[c]⟩).toNat = k := by rw [hiB, h1]; rfl
      rw [hcB, Lib.splitB, if_neg hnm, htn]
      have hz : (s.extract (k + 1) s.size).size < s.size := by rw [ByteArray.size_extract]; omega
      match n, hn with
      | 0, hn => omega
      | n + 1, hn =>
        have ih := splitB_is c n (s.extract (k + 1) s.size) (by omega)
        have hs1 : (⟨#[c]⟩ : ByteArray).size = 1 := rfl
        have hst := splitW_step (c := c) (s := s) (a := 0) (i := k) hk (Nat.zero_le _) h2 (fun j _ hj h => h3 j hj)
        rw [ext_all] at hst
        rw [hs1, ih, hst, Nat.add_zero]
attribute [local irreducible] Calls
theorem split_any (s : ByteArray) (c : UInt8) (w : World) (hs : s.size ≤ 1048576) (hm : MaxL w) :
    Calls Tryz.prog 20 #[.string s, .string ⟨#[c]⟩] w fun e w' => ∃ v', e = .returned v' ∧ StrsW w' w.heap.size w'.heap.size v' (splitW c s) ∧ Below w.heap.size w w' := by
  obtain ⟨m, hm⟩ := hm
  refine (Tryz.strings_Split s ⟨#[c]⟩ m w (by omega) hm (Nat.le_refl _)).mono ?_
  rintro e w' ⟨rfl, rfl⟩
  have hl : Lib.countB s ⟨#[c]⟩ + 1 = (splitW c s).length := by
    rw [← splitB_is c s.size s (Nat.le_refl _)]
    exact (Lib.splitB_all ⟨#[c]⟩ (Nat.le_refl _) 0 _ s rfl).symm
  have hle := splitW_len c s
  refine ⟨_, rfl, ⟨⟨by simp, some ⟨w.heap.size, 0, none⟩, _, by rw [hl], Nat.le_refl _, by unfold maxLen; omega, .inr ⟨w.heap.size, 0, _, rfl, Nat.le_refl _, by simp, heap_alloc_new w _, ?_, ?_⟩⟩, ?_⟩, (Below.refl _ _).alloc (Nat.le_refl _) _⟩
  · rw [splitB_is c s.size s (Nat.le_refl _)]; simp
  · rw [splitB_is c s.size s (Nat.le_refl _)]; simp; exact List.take_of_length_le (by simp)
  · intro p hp; have := splitW_part hp; unfold maxLen; omega
set_option maxHeartbeats 1000000 in
theorem l01Split_any (s : ByteArray) (z : Int) (c : UInt8) (w : World) (hz : z = (c.toNat : Int)) (hs : s.size ≤ 1048576) :
    Calls Tryz.prog 66 #[.string s, .int .u8 z] w fun e w' => ∃ v', e = .returned v' ∧ StrsW w' w.heap.size w'.heap.size v' (splitW c s) ∧ Below w.heap.size w w' := by
  subst hz
  go_enter Tryz.func66, Tryz.ntmps66
  go_wp2
  have hb0 : Below w.heap.size w (w.alloc (.cells #[] 9)) := (Below.refl _ _).alloc (Nat.le_refl _) _
  have hown0 := OwnS.made w w.heap.size (Nat.le_refl _)
  go_loopw [5, 6, 7] (fun out f i wr => ∃ (a k : Nat) (l : List ByteArray), k ≤ s.size ∧ a ≤ k ∧ f = .int .i64 (a : Int) ∧ i = .int .i64 (k : Int) ∧ OwnS wr w.heap.size out l ∧ l.length ≤ k ∧ Hid (splitW c s = l ++ splitW c (s.extract a s.size)) ∧
    Hid (∀ j, a ≤ j → j < k → (h : j < s.size) → s[j] ≠ c) ∧ Below w.heap.size w wr) (fun _ _ i _ => s.size - (intOf i).toNat)
  case atStart => exact ⟨0, 0, [], by omega, by omega, rfl, rfl, hown0, by simp, Lib.hid (by rw [ext_all]; rfl), Lib.hid fun j h1 h2 => by omega, hb0⟩
  case round =>
    obtain ⟨a, k, l, hk, hak, rfl, rfl, hown, hll, Hl, Hn, hb⟩ := hrel
    clear hown0 hb0
    have HB := Lib.hid hb
    have hbs := hb.size
    clear hb
    by_cases hlt : k < s.size
    · have hltI : (k : Int) < (s.size : Int) := by omega
      have hkI : (a : Int) ≤ (k : Int) := by omega
      cases hd : ((s[k].toNat : Int) == (c.toNat : Int))
      · have Hd := Lib.hid (show s[k] ≠ c by rintro e; rw [e] at hd; simp at hd)
        go_wp2
        go_roundw
        case rel =>
          refine ⟨a, k + 1, l, by omega, by omega, rfl, by go_num, hown, by omega, Hl, Lib.hid fun j h1 h2 h => ?_, HB.out⟩
          rcases Nat.lt_succ_iff_lt_or_eq.1 h2 with h3 | rfl
          · exact Hn.out j h1 h3 h
          · exact Hd.out
        case measure => simp [intOf]; omega
      · have Hd := Lib.hid (show s[k] = c from UInt8.toNat_inj.1 (by have := eq_of_beq hd; omega))
        have Hst := Lib.hid (splitW_step hlt hak Hd.out Hn.out)
        have Hown := Lib.hid hown
        clear hown
        go_wp2_with (at_builtin; refine app_str rfl _ _ rfl w.heap.size _ _ rfl Hown.out (s.extract a k) rfl (by omega) hbs ?_; intro g cap w2 hown2 hbel2 _)
        go_roundw
        case rel => exact ⟨k + 1, k + 1, l ++ [s.extract a k], by omega, by omega, by go_num, by go_num, by simpa [OwnS] using hown2, by simp; omega, Lib.hid (by rw [Hl.out, Hst.out]; simp), Lib.hid fun j h1 h2 => by omega, hbel2 _ HB.out⟩
        case measure => simp [intOf]; omega
    · have hkI : (a : Int) ≤ (s.size : Int) := by omega
      have Hend := Lib.hid (splitW_end (c := c) (s := s) (a := a) fun j h1 h => Hn.out j h1 (by omega) h)
      have Hown := Lib.hid hown
      clear hown
      go_wp2_with (at_builtin; refine app_str rfl _ _ rfl w.heap.size _ _ rfl Hown.out (s.extract a s.size) rfl (by omega) hbs ?_; intro g cap w2 hown2 hbel2 _)
      go_ret
      have hown3 : OwnS w2 w.heap.size (.slice (some ⟨g, 0, none⟩) (l.length + 1) cap) (splitW c s) := by rw [Hl.out, Hend.out]; exact hown2
      exact ⟨_, rfl, hown3.strs (fun p hp => by have := splitW_part hp; unfold maxLen; omega), hbel2 _ HB.out⟩
end Go.Proofs.YtinmmbnlflmobaaGreatDoor
