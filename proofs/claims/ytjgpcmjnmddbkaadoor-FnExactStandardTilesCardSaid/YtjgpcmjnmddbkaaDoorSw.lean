/- SplitWords of both sides. Conditions: a text of at most 2^20 bytes; MaxLen's cell. -/
import Derived.Test.YtjgpcmjnmddbkaaDoorS
import Derived.Test.YtjgpcmjnmddbkaaDoorAt
namespace Go.Proofs.YtjgpcmjnmddbkaaDoor
open Go.RowKit
theorem filter_takeS {α : Type} (p : α → Bool) (l : List α) (j : Nat) (h : j < l.length) : (l.take (j + 1)).filter p = (l.take j).filter p ++ (if p l[j] then [l[j]] else []) := by
  rw [List.take_succ_eq_append_getElem h, List.filter_append]
  cases hp : p l[j] <;> simp [hp]
/-- Is it not empty? -/
def notE (s : ByteArray) : Bool := !decide (s.size = 0)
theorem notE_no {s : ByteArray} (h : s.size = 0) : notE s = false := by simp [notE, h]
theorem notE_yes {s : ByteArray} (h : s.size ≠ 0) : notE s = true := by simp [notE, h]
theorem isEmpty_f {s : ByteArray} (h : s.size ≠ 0) : s.toList.isEmpty = false := by
  have : s.toList.length = s.size := by rw [ByteArray.toList_eq]; simp
  cases hl : s.toList with
  | nil => rw [hl] at this; simp at this; omega
  | cons a l => rfl
theorem isEmpty_t {s : ByteArray} (h : s.size = 0) : s.toList.isEmpty = true := by
  have : s.toList.length = s.size := by rw [ByteArray.toList_eq]; simp
  cases hl : s.toList with
  | nil => rfl
  | cons a l => rw [hl] at this; simp at this; omega
def spW (s : ByteArray) : List ByteArray := (splitW 32 s).filter notE
theorem spW_len (s : ByteArray) (h : s.size ≤ 1048576) : (spW s).length ≤ 1048577 := by
  unfold spW
  have h1 := List.length_filter_le notE (splitW 32 s)
  have h2 := splitW_len 32 s
  omega
attribute [local irreducible] Calls
set_option maxHeartbeats 2000000 in
theorem specSplitWords_any (s : ByteArray) (w : World) (hs : s.size ≤ 1048576) (_hm : MaxL w) :
    Calls Tryd.prog 13 #[.string s] w fun e w' => ∃ v', e = .returned v' ∧ StrsW w' w.heap.size w'.heap.size v' (spW s) ∧ Below w.heap.size w w' := by
  have hne := splitW_ne 32 s
  go_enter Tryd.func13, Tryd.ntmps13
  go_wp2_with fail
  refine (l01Split_any s _ 32 _ rfl hs).mono ?_
  rintro e w1 ⟨v1, rfl, hv1, hb1⟩
  have HB0 := Lib.hid ((Below.refl w1.heap.size w1).alloc (Nat.le_refl _) (.cells #[] 9))
  have HB1 := Lib.hid hb1
  have HV := Lib.hid hv1.read
  have Hown := Lib.hid (OwnS.made w1 w1.heap.size (Nat.le_refl _))
  have Hlen := Lib.hid (splitW_len 32 s)
  have Hpart := Lib.hid (fun p (hp : p ∈ splitW 32 s) => splitW_part hp)
  have Hsp := Lib.hid (show spW s = (splitW 32 s).filter notE from rfl)
  obtain ⟨L, hL⟩ : ∃ L, L = splitW 32 s := ⟨_, rfl⟩
  rw [← hL] at HV Hlen Hpart Hsp hne
  clear hL
  obtain ⟨a, c, rfl, hl, hc, hcs⟩ := HV.out.shape
  unfold maxLen at hc
  have hL1 := Hlen.out
  clear hv1 hb1 hcs
  go_wp2
  go_loopw [4, 5] (fun out i wr => ∃ j : Nat, j ≤ L.length ∧ i = .int .i64 (j : Int) ∧ OwnS wr w1.heap.size out ((L.take j).filter notE) ∧ Below w1.heap.size w1 wr) (fun _ i _ => L.length - (intOf i).toNat)
  case atStart => exact ⟨0, by omega, rfl, by simpa using Hown.out, HB0.out⟩
  case round =>
    obtain ⟨j, hj, rfl, hown, hb⟩ := hrel
    have HB := Lib.hid hb
    have hbs := hb.size
    have HVr := Lib.hid (HV.out.below HB.out)
    clear hb HB0 HV Hown
    by_cases hlt : j < L.length
    · obtain ⟨a', c', e1, -, -, hcs⟩ := HVr.out.shape
      injection e1 with e1 e2 e3
      subst e1
      subst e3
      obtain ⟨b1, o1, rfl, hc1, hs1⟩ := hcs j hlt
      clear hcs e2
      have hlen : ((L.take j).filter notE).length ≤ 1048577 := by have := List.length_filter_le notE (L.take j); simp at this; omega
      have Htk := Lib.hid (filter_takeS notE L j hlt)
      by_cases hz : L[j].size = 0
      · have Hz := Lib.hid (notE_no hz)
        have hzt := isEmpty_t hz
        have hzt2 : L[j].toList = [] := by simpa using hzt
        clear hz
        go_wp2
        go_roundw
        case rel => exact ⟨j + 1, by omega, by go_num, by rw [Htk.out, Hz.out]; simpa using hown, HB.out⟩
        case measure => simp [intOf]; omega
      · have Hz := Lib.hid (notE_yes hz)
        have hzt := isEmpty_f hz
        have Hown := Lib.hid hown
        clear hz hown
        go_wp2_with (at_builtin; refine app_str rfl _ _ rfl w1.heap.size _ _ rfl Hown.out L[j] rfl (by omega) hbs ?_; intro g cap w2 hown2 hbel2 _)
        go_roundw
        case rel => exact ⟨j + 1, by omega, by go_num, by rw [Htk.out, Hz.out]; simpa [OwnS] using hown2, hbel2 _ HB.out⟩
        case measure => simp [intOf]; omega
    · go_wp2
      go_ret
      obtain rfl : j = L.length := by omega
      rw [List.take_length] at hown
      rw [Hsp.out]
      exact ⟨_, rfl, (hown.strs (fun p hp => by have := Hpart.out p (List.mem_filter.1 hp).1; unfold maxLen; omega)).mono HB1.out.size (Nat.le_refl _), HB1.out.trans (HB.out.mono HB1.out.size)⟩
set_option maxHeartbeats 2000000 in
theorem implSplitWords_any (s : ByteArray) (w : World) (hs : s.size ≤ 1048576) (hm : MaxL w) :
    Calls Tryd.prog 14 #[.string s] w fun e w' => ∃ v', e = .returned v' ∧ StrsW w' w.heap.size w'.heap.size v' (spW s) ∧ Below w.heap.size w w' := by
  have hne := splitW_ne 32 s
  go_enter Tryd.func14, Tryd.ntmps14
  go_wp2_with fail
  have hb0 : Below w.heap.size w (w.alloc (.cells #[] 9)) := (Below.refl _ _).alloc (Nat.le_refl _) _
  refine (split_any s 32 _ hs (hm.below hb0)).mono ?_
  rintro e w1 ⟨v1, rfl, hv1, hb1⟩
  have HB0 := Lib.hid (hb0.trans (hb1.mono hb0.size))
  have hz1 : w.heap.size + 1 ≤ w1.heap.size := by have := hb1.size; simpa using this
  have HV := Lib.hid hv1.read
  have HVW := Lib.hid hv1
  have Hown := Lib.hid ((OwnS.made w w.heap.size (Nat.le_refl _)).below hb1)
  have Hlen := Lib.hid (splitW_len 32 s)
  have Hpart := Lib.hid (fun p (hp : p ∈ splitW 32 s) => splitW_part hp)
  have Hsp := Lib.hid (show spW s = (splitW 32 s).filter notE from rfl)
  obtain ⟨L, hL⟩ : ∃ L, L = splitW 32 s := ⟨_, rfl⟩
  rw [← hL] at HV Hlen Hpart Hsp hne HVW
  clear hL
  obtain ⟨a, c, rfl, hl, hc, hcs⟩ := HV.out.shape
  unfold maxLen at hc
  have hL1 := Hlen.out
  have Hpb := Lib.hid (HVW.out.block (by omega))
  rw [World.size_alloc] at Hpb
  clear hv1 hb1 hcs
  go_wp2
  go_loopw [3, 10] (fun out i wr => ∃ j : Nat, j ≤ L.length ∧ i = .int .i64 (j : Int) ∧ OwnS wr w.heap.size out ((L.take j).filter notE) ∧ Below w.heap.size w wr ∧ Hid (Strs wr (.slice a L.length c) L) ∧ Hid (∀ g, out.ownBlock = some g → g = w.heap.size ∨ w1.heap.size ≤ g) ∧ w1.heap.size ≤ wr.heap.size) (fun _ i _ => L.length - (intOf i).toNat)
  case atStart => exact ⟨0, by omega, rfl, by simpa using Hown.out, HB0.out, HV, Lib.hid (fun g hg => .inl (Option.some.inj hg).symm), Nat.le_refl _⟩
  case round =>
    obtain ⟨j, hj, rfl, hown, hb, HVr, Hnb, hszr⟩ := hrel
    have HB := Lib.hid hb
    have hbs := hb.size
    have hx := trivial
    clear hb HB0 HV Hown
    by_cases hlt : j < L.length
    · obtain ⟨a', c', e1, -, -, hcs⟩ := HVr.out.shape
      injection e1 with e1 e2 e3
      subst e1
      subst e3
      obtain ⟨b1, o1, rfl, hc1, hs1⟩ := hcs j hlt
      clear hcs e2
      have hlen : ((L.take j).filter notE).length ≤ 1048577 := by have := List.length_filter_le notE (L.take j); simp at this; omega
      have Htk := Lib.hid (filter_takeS notE L j hlt)
      by_cases hz : L[j].size = 0
      · have Hz := Lib.hid (notE_no hz)
        have hzt := isEmpty_t hz
        have hzt2 : L[j].toList = [] := by simpa using hzt
        clear hz
        go_wp2
        go_roundw
        case rel => exact ⟨j + 1, by omega, by go_num, by rw [Htk.out, Hz.out]; simpa using hown, HB.out, HVr, Hnb, hszr⟩
        case measure => simp [intOf]; omega
      · have Hz := Lib.hid (notE_yes hz)
        have hzt := isEmpty_f hz
        have Hown := Lib.hid hown
        clear hz hown
        go_wp2_with (at_builtin; refine app_str_at rfl _ _ rfl w.heap.size _ _ rfl Hown.out L[j] rfl (by omega) hbs ?_; intro g cap w2 hown2 hbel2 hgr hloc)
        have HV2 := Lib.hid (HVr.out.grown hgr fun b off hab e => by
          have h1 := Hpb.out b off hab
          have h2 := Hnb.out b e
          omega)
        have Hnb2 : Hid (∀ g', (Value.slice (some ⟨g, 0, none⟩) (((L.take j).filter notE).length + 1) cap).ownBlock = some g' → g' = w.heap.size ∨ w1.heap.size ≤ g') := Lib.hid fun g' e => by
          obtain rfl : g = g' := Option.some.inj e
          rcases hloc with h | h
          · exact Hnb.out g h.symm
          · right; omega
        clear hloc
        go_roundw
        case rel => exact ⟨j + 1, by omega, by go_num, by rw [Htk.out, Hz.out]; simpa [OwnS] using hown2, hbel2 _ HB.out, HV2, Hnb2, Nat.le_trans hszr hgr.size⟩
        case measure => simp [intOf]; omega
    · go_wp2
      go_ret
      obtain rfl : j = L.length := by omega
      rw [List.take_length] at hown
      rw [Hsp.out]
      exact ⟨_, rfl, hown.strs (fun p hp => by have := Hpart.out p (List.mem_filter.1 hp).1; unfold maxLen; omega), HB.out⟩
end Go.Proofs.YtjgpcmjnmddbkaaDoor
