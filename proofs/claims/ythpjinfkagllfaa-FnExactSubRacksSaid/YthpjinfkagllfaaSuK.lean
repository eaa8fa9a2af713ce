/- l03Subs of the reference: a recursion. Conditions: at most seven tiles. -/
import Derived.Test.YthpjinfkagllfaaSuJ
import Derived.Test.YthpjinfkagllfaaWy
set_option linter.unusedSimpArgs false
namespace Go.Proofs.Ythpjinfkagllfaa
open Go.RowKit
attribute [local irreducible] Calls
theorem bl_mkT (a b : List UInt8) : Op.bytesLess (mkT a).toList (mkT b).toList = Op.bytesLess a b := by
  rw [ByteArray.toList_eq, ByteArray.toList_eq]; rfl
/-- What place i adds. -/
def subI (n : Nat) (l : List UInt8) (i : Nat) : List (List UInt8) := if dupAt l i then [] else (subsP n (l.drop (i + 1))).map (l.getD i 0 :: ·)
theorem subsP_at (n : Nat) (l : List UInt8) : subsP (n + 1) l = (List.range (l.length - n)).flatMap (subI n l) := rfl
/-- The list is ascending. -/
def Asc (l : List (List UInt8)) : Prop := l.Pairwise fun x y => Op.bytesLess x y = true
theorem subsP_asc {n : Nat} {l : List UInt8} (hr : Rises l) (ht : tileAll l = true) : Asc (subsP n l) := by
  rw [subs_eq n l (cntOf l) 0 hr ht (by omega) (fun _ _ _ => rfl) (fun q h => by omega)]
  exact subsC_sorted n _ 0
theorem subsP_count {n : Nat} {l : List UInt8} : (subsP n l).length ≤ 2 ^ l.length := by
  induction n generalizing l with
  | zero => rw [subsP]; exact Nat.pow_pos (n := l.length) (show 0 < 2 by omega)
  | succ n ih =>
    rw [subsP_at]
    have key : ∀ j, j ≤ l.length → ((List.range j).flatMap (subI n l)).length + 2 ^ (l.length - j) ≤ 2 ^ l.length := by
      intro j
      induction j with
      | zero => simp
      | succ j ihj =>
        intro hj
        have h1 := ihj (by omega)
        have h2 : (subI n l j).length ≤ 2 ^ (l.length - (j + 1)) := by
          unfold subI
          split
          · simp
          · rw [List.length_map]
            have := ih (l := l.drop (j + 1))
            rwa [List.length_drop] at this
        rw [flat_range, List.length_append]
        have h3 : 2 ^ (l.length - j) = 2 ^ (l.length - (j + 1)) + 2 ^ (l.length - (j + 1)) := by
          rw [show l.length - j = l.length - (j + 1) + 1 by omega, Nat.pow_succ]; omega
        omega
    exact Nat.le_trans (Nat.le_add_right _ _) (key (l.length - n) (by omega))
theorem asc_prefix {n : Nat} {l : List UInt8} (h : Asc (subsP (n + 1) l)) {i j : Nat} (hi : i < l.length - n) (hd : dupAt l i = false) (hj : j < (subsP n (l.drop (i + 1))).length) :
    ∀ p ∈ (List.range i).flatMap (subI n l) ++ ((subsP n (l.drop (i + 1))).take j).map (l.getD i 0 :: ·), Op.bytesLess p (l.getD i 0 :: (subsP n (l.drop (i + 1)))[j]) = true := by
  rw [subsP_at] at h
  obtain ⟨d, hdd⟩ := Nat.exists_eq_add_of_le (show i + 1 ≤ l.length - n by omega)
  rw [hdd, List.range_add, List.flatMap_append] at h
  have h := (List.pairwise_append.1 h).1
  rw [flat_range] at h
  have e : subI n l i = (subsP n (l.drop (i + 1))).map (l.getD i 0 :: ·) := by unfold subI; rw [hd]; rfl
  rw [e] at h
  obtain ⟨h1, h2, h3⟩ := List.pairwise_append.1 h
  intro p hp
  rcases List.mem_append.1 hp with hp | hp
  · exact h3 p hp _ (List.mem_map.2 ⟨_, List.getElem_mem hj, rfl⟩)
  · obtain ⟨q, hq, rfl⟩ := List.mem_map.1 hp
    obtain ⟨k, hk, rfl⟩ := List.getElem_of_mem hq
    rw [List.getElem_take]
    have hk2 : k < j := by rw [List.length_take] at hk; omega
    have := (List.pairwise_map.1 h2)
    exact (List.pairwise_iff_getElem.1 this) k j (by omega) hj hk2
theorem OwnS.lower {w : World} {B B2 : Nat} {v : Value} {l : List ByteArray} (h : OwnS w B v l) (hB : B2 ≤ B) : OwnS w B2 v l := by
  obtain ⟨h1, h2⟩ := h
  refine ⟨h1, ?_⟩
  rcases h2 with h2 | ⟨g, cap, cur, a, b, c⟩
  · exact .inl h2
  · exact .inr ⟨g, cap, cur, a, Nat.le_trans hB b, c⟩
theorem ext_drop (s : ByteArray) (k : Nat) (h : k < s.size) : (s.extract (k + 1) s.size).data.toList = s.data.toList.drop (k + 1) ∧ (s.extract (k + 1) s.size).size ≤ s.size ∧ s.extract k (k + 1) = ⟨#[s[k]]⟩ := by
  refine ⟨?_, by simp [ByteArray.size_extract], ?_⟩
  · rw [ByteArray.data_extract, Array.toList_extract, List.extract_eq_take_drop]
    rw [List.take_of_length_le (by simp)]
  · apply ByteArray.ext; apply Array.ext'
    rw [ByteArray.data_extract, Array.toList_extract, List.extract_eq_take_drop, show k + 1 - k = 1 by omega]
    rw [List.drop_eq_getElem_cons (show k < s.data.toList.length by simpa using h)]
    rfl
theorem mkT_cons (c : UInt8) (l : List UInt8) : (⟨#[c]⟩ : ByteArray) ++ mkT l = mkT (c :: l) := by
  apply ByteArray.ext; simp [mkT]
theorem dup_zero (l : List UInt8) : dupAt l 0 = false := rfl
theorem dup_succ {s : ByteArray} {i : Nat} (h : i + 1 < s.size) : dupAt s.data.toList (i + 1) = (s[i + 1] == s[i]) := by
  have e : ∀ k (hk : k < s.size), s.data.toList.getD k 0 = s[k] := fun k hk => by
    rw [List.getD_eq_getElem?_getD, List.getElem?_eq_getElem (by simpa using hk)]; rfl
  unfold dupAt
  rw [Nat.add_sub_cancel, e _ h, e i (by omega)]
  simp
def subL (n : Nat) (s : ByteArray) (i : Nat) : List ByteArray := ((List.range i).flatMap (subI n s.data.toList)).map mkT
/-- The list at place k, tile j. -/
def preL (n : Nat) (s : ByteArray) (k j : Nat) : List (List UInt8) := (List.range k).flatMap (subI n s.data.toList) ++ ((subsP n (s.data.toList.drop (k + 1))).take j).map (s.data.toList.getD k 0 :: ·)
theorem preL_zero (n : Nat) (s : ByteArray) (k : Nat) : (preL n s k 0).map mkT = subL n s k := by simp [preL, subL]
theorem preL_all (n : Nat) (s : ByteArray) (k : Nat) (hd : dupAt s.data.toList k = false) : (preL n s k (subsP n (s.data.toList.drop (k + 1))).length).map mkT = subL n s (k + 1) := by
  unfold preL subL
  rw [flat_range, List.take_length]
  have : subI n s.data.toList k = (subsP n (s.data.toList.drop (k + 1))).map (s.data.toList.getD k 0 :: ·) := by unfold subI; rw [hd]; rfl
  rw [this]
theorem preL_succ (n : Nat) (s : ByteArray) (k j : Nat) (hk : k < s.size) (hj : j < (subsP n (s.data.toList.drop (k + 1))).length) : (preL n s k (j + 1)).map mkT = (preL n s k j).map mkT ++ [s.extract k (k + 1) ++ mkT (subsP n (s.data.toList.drop (k + 1)))[j]] := by
  have e : s.data.toList.getD k 0 = s[k] := by
    rw [List.getD_eq_getElem?_getD, List.getElem?_eq_getElem (by simpa using hk)]; rfl
  unfold preL
  rw [List.take_succ_eq_append_getElem hj, (ext_drop s k hk).2.2, mkT_cons, e]
  simp only [List.map_append, List.append_assoc, List.map_cons, List.map_nil]
theorem preL_len {n : Nat} {s : ByteArray} {k j : Nat} (hs : s.size ≤ 7) (hk : k < s.size - n) (hd : dupAt s.data.toList k = false) (hj : j ≤ (subsP n (s.data.toList.drop (k + 1))).length) : (preL n s k j).length ≤ 128 := by
  have h1 : (preL n s k j).length ≤ ((List.range (k + 1)).flatMap (subI n s.data.toList)).length := by
    rw [flat_range]
    have : subI n s.data.toList k = (subsP n (s.data.toList.drop (k + 1))).map (s.data.toList.getD k 0 :: ·) := by unfold subI; rw [hd]; rfl
    unfold preL
    rw [this, List.length_append, List.length_append, List.length_map, List.length_map, List.length_take]
    omega
  have h2 := flat_le (subI n s.data.toList) (k + 1) (s.size - n - (k + 1))
  rw [show k + 1 + (s.size - n - (k + 1)) = s.size - n by omega] at h2
  have h3 := subsP_count (n := n + 1) (l := s.data.toList)
  rw [subsP_at, show s.data.toList.length = s.size from Array.length_toList] at h3
  have h4 := Nat.pow_le_pow_right (show 0 < 2 by omega) hs
  omega
theorem preL_last {n : Nat} {s : ByteArray} {k j : Nat} (hr : Rises s.data.toList) (ht : tileAll s.data.toList = true) (hk : k < s.size - n) (hd : dupAt s.data.toList k = false) (hj : j < (subsP n (s.data.toList.drop (k + 1))).length)
    (h0 : 0 < ((preL n s k j).map mkT).length) : Op.bytesLess (((preL n s k j).map mkT)[((preL n s k j).map mkT).length - 1]'(by omega)).toList (s.extract k (k + 1) ++ mkT (subsP n (s.data.toList.drop (k + 1)))[j]).toList = true := by
  have hk2 : k < s.size := by omega
  have e : s.data.toList.getD k 0 = s[k] := by
    rw [List.getD_eq_getElem?_getD, List.getElem?_eq_getElem (by simpa using hk2)]; rfl
  rw [(ext_drop s k hk2).2.2, mkT_cons, List.getElem_map, bl_mkT, ← e]
  exact asc_prefix (subsP_asc (n := n + 1) hr ht) (by rw [show s.data.toList.length = s.size from Array.length_toList]; exact hk) hd hj _ (List.getElem_mem _)
theorem preL_max {n : Nat} {s : ByteArray} {k j : Nat} (h : ∀ x ∈ (preL n s k j).map mkT, x.size ≤ 1048576) : ∀ x ∈ (preL n s k j).map mkT, x.size ≤ maxLen := fun x hx => by have := h x hx; unfold maxLen; omega
theorem subsP_each : ∀ (n : Nat) (l : List UInt8), ∀ x ∈ subsP n l, x.length = n
  | 0, _, x, h => by simp [subsP] at h; simp [h]
  | n + 1, l, x, h => by
    rw [subsP, List.mem_flatMap] at h
    obtain ⟨j, -, h⟩ := h
    split at h
    · simp at h
    · obtain ⟨y, hy, rfl⟩ := List.mem_map.1 h
      simp [subsP_each n _ y hy]
theorem preL_size {n : Nat} {s : ByteArray} {k j : Nat} (hn : n ≤ 7) : ∀ x ∈ (preL n s k j).map mkT, x.size ≤ maxLen := by
  refine preL_max fun x hx => ?_
  obtain ⟨y, hy, rfl⟩ := List.mem_map.1 hx
  rw [mkT_size]
  unfold preL at hy
  rcases List.mem_append.1 hy with hy | hy
  · obtain ⟨i, -, hi⟩ := List.mem_flatMap.1 hy
    unfold subI at hi
    split at hi
    · simp at hi
    · obtain ⟨z, hz, rfl⟩ := List.mem_map.1 hi
      have := subsP_each n _ z hz
      simp; omega
  · obtain ⟨z, hz, rfl⟩ := List.mem_map.1 hy
    have := subsP_each n _ z (List.mem_of_mem_take hz)
    simp; omega
theorem subL_dup {n : Nat} {s : ByteArray} {i : Nat} (h : dupAt s.data.toList i = true) : subL n s (i + 1) = subL n s i := by
  unfold subL
  rw [flat_range]
  have : subI n s.data.toList i = [] := by unfold subI; rw [h]; rfl
  rw [this, List.append_nil]
set_option maxHeartbeats 8000000 in
set_option maxRecDepth 20000 in
theorem l03Subs_any : ∀ (n : Nat) (s : ByteArray) (w : World), n ≤ 7 → s.size ≤ 7 → Rises s.data.toList → tileAll s.data.toList = true →
    Calls Try.prog 42 #[.string s, .int .i64 (n : Int)] w fun e w' => ∃ g cap, e = .returned (.slice (some ⟨g, 0, none⟩) (subsP n s.data.toList).length cap) ∧ OwnS w' w.heap.size (.slice (some ⟨g, 0, none⟩) (subsP n s.data.toList).length cap) ((subsP n s.data.toList).map mkT) ∧ Below w.heap.size w w' := by
  intro n
  induction n with
  | zero =>
    intro s w _ _ _ _
    go_enter Try.func42, Try.ntmps42
    go_wp2
    go_ret
    refine ⟨_, _, rfl, ⟨rfl, .inr ⟨w.heap.size, 1, _, rfl, Nat.le_refl _, heap_alloc_new w _, Nat.le_refl _, by unfold maxLen; omega, rfl, rfl⟩⟩, (Below.refl _ _).alloc (Nat.le_refl _) _⟩
  | succ n ih =>
    intro s w hn7 hs7 hri hti
    have Ih := Lib.hid ih
    have Hri := Lib.hid hri
    have Hti := Lib.hid hti
    obtain ⟨z, hz⟩ : ∃ z : Int, z = ((n + 1 : Nat) : Int) := ⟨_, rfl⟩
    rw [← hz]
    have hq : (z == 0) = false := by rw [beq_eq_false_iff_ne]; omega
    have hz1 : z - 1 = (n : Int) := by omega
    have hz7 : 0 ≤ z ∧ z ≤ 7 := by omega
    have Hz := Lib.hid hz
    clear hz
    clear ih hri hti
    go_enter Try.func42, Try.ntmps42
    go_wp2
    go_loopw [5, 6] (fun v i wr => ∃ k : Nat, k ≤ s.size - n ∧ i = .int .i64 (k : Int) ∧ ∃ g cap, v = .slice (some ⟨g, 0, none⟩) (subL n s k).length cap ∧ OwnS wr w.heap.size (.slice (some ⟨g, 0, none⟩) (subL n s k).length cap) (subL n s k) ∧ Below w.heap.size w wr) (fun _ i _ => s.size + 1 - (intOf i).toNat)
    case atStart => exact ⟨0, by omega, rfl, _, _, rfl, OwnS.made w w.heap.size (Nat.le_refl _), (Below.refl _ _).alloc (Nat.le_refl _) _⟩
    case round =>
      obtain ⟨k, hk, rfl, g, cap, rfl, hown, hb⟩ := hrel
      have Hown := Lib.hid hown
      have Hb := Lib.hid hb
      clear hown hb
      by_cases hlt : k < s.size - n
      · have hltI : (k : Int) + z ≤ (s.size : Int) := by omega
        cases k with
        | zero =>
          have hd := dup_zero s.data.toList
          have hw1 : IntKind.i64.wrap 1 = 1 := by decide
          have hs1 : (1 : Int) ≤ (s.size : Int) := by omega
          go_wp2_with fail
          go_quiet (fail)
          have HdK := Lib.hid hd
          obtain ⟨hx1, hx2, hx3⟩ := ext_drop s 0 (by omega)
          have Hx1 := Lib.hid hx1
          clear hx1 hx3 hd
          go_wp2_with fail
          refine (Ih.out (s.extract (0 + 1) s.size) _ (by omega) (by omega) (by rw [Hx1.out]; exact rises_sub (List.drop_sublist _ _) Hri.out) (by rw [Hx1.out]; exact tiles_sub (List.drop_sublist _ _) Hti.out)).mono ?_
          rw [Hx1.out]
          rintro e w2 ⟨g2, cap2, rfl, hR, hb2⟩
          obtain ⟨R, hRR⟩ : ∃ R, R = subsP n (s.data.toList.drop (0 + 1)) := ⟨_, rfl⟩
          rw [← hRR] at hR ⊢
          have HR0 := Lib.hid (hR.lower (Nat.zero_le _))
          have HRR := Lib.hid hRR
          have hRl : R.length ≤ 128 := by
            have := preL_len (n := n) (k := 0) (j := R.length) hs7 hlt HdK.out (by rw [hRR]; exact Nat.le_refl _)
            unfold preL at this
            rw [List.length_append, List.length_map, List.length_take, ← hRR] at this
            omega
          have HB2 := Lib.hid ((below_drewN Hb.out _).trans (hb2.mono (below_drewN Hb.out _).size))
          have HO2 := Lib.hid ((Hown.out.below (below_drewN (Below.refl _ _) _)).below hb2)
          clear hR hRR hb2
          go_wp2
          obtain ⟨wo, rfl⟩ : ∃ wo : World, wo = wr := ⟨_, rfl⟩
          go_loopw [5, 8] (fun v i wq => ∃ j : Nat, j ≤ R.length ∧ i = .int .i64 (j : Int) ∧ ∃ g3 cap3, v = .slice (some ⟨g3, 0, none⟩) ((preL n s 0 j).map mkT).length cap3 ∧ OwnS wq w.heap.size (.slice (some ⟨g3, 0, none⟩) ((preL n s 0 j).map mkT).length cap3) ((preL n s 0 j).map mkT) ∧ OwnS wq 0 (.slice (some ⟨g2, 0, none⟩) R.length cap2) (R.map mkT) ∧ Below w.heap.size w wq) (fun _ i _ => R.length - (intOf i).toNat)
          case atStart => exact ⟨0, by omega, rfl, g, cap, by rw [preL_zero], by rw [preL_zero]; exact HO2.out, HR0.out, HB2.out⟩
          case round =>
            obtain ⟨j, hj, rfl, g3, cap3, rfl, hown3, hR3, hb3⟩ := hrel
            have HR3 := Lib.hid hR3
            have HB3 := Lib.hid hb3
            have hPlen := preL_len (n := n) (k := 0) (j := j) hs7 hlt HdK.out (by rw [← HRR.out]; exact hj)
            have hPn : ((preL n s 0 j).map mkT).length = (preL n s 0 j).length := List.length_map ..
            by_cases hlj : j < R.length
            · have hcj := World.ownsRow.cellAt (w := wr) (n := R.length) (by have := hR3; unfold OwnS at this; rw [List.length_map] at this; exact this) j (by omega)
              rw [List.getElem?_map, List.getElem?_map, List.getElem?_eq_getElem hlj] at hcj
              obtain ⟨r, hr⟩ : ∃ r, r = mkT R[j] := ⟨_, rfl⟩
              have hcj : wr.cell? ⟨g2, j, none⟩ = some (.string r) := by rw [hr]; exact hcj
              have hrs : r.size ≤ 1048576 := by
                rw [hr, mkT_size, subsP_each n _ R[j] (by rw [← HRR.out]; exact List.getElem_mem hlj)]; omega
              have hsu := preL_succ n s 0 j (by omega) (by rw [← HRR.out]; exact hlj)
              have hla : ∀ h0 : 0 < ((preL n s 0 j).map mkT).length, Op.bytesLess (((preL n s 0 j).map mkT)[((preL n s 0 j).map mkT).length - 1]'(Nat.sub_lt h0 Nat.one_pos)).toList (s.extract 0 (0 + 1) ++ r).toList = true := fun h0 => by
                have := preL_last Hri.out Hti.out hlt HdK.out (j := j) (by rw [← HRR.out]; exact hlj) h0
                simp only [← HRR.out] at this
                rw [hr]; exact this
              simp only [← HRR.out] at hsu
              rw [← hr] at hsu
              have hmx := preL_size (n := n) (s := s) (k := 0) (j := j) (by omega)
              rw [← hPn] at hPlen
              generalize (preL n s 0 j).map mkT = PJ at hmx hown3 hPn hsu hla hPlen ⊢
              have Hsu := Lib.hid hsu
              have HLa := Lib.hid hla
              have HPm := Lib.hid hmx
              have Hown3 := Lib.hid hown3
              have HPl := Lib.hid (show PJ.length ≤ 1048576 by omega)
              have hx1 : (s.extract 0 (0 + 1)).size = 1 := by rw [(ext_drop s 0 (by omega)).2.2]; rfl
              have hsum : (9223372036854775807 < 1 + r.size) = False := by rw [eq_iff_iff, iff_false]; omega
              have hlI : (j : Int) < (R.length : Int) := by omega
              have hj0 : (0 : Int) ≤ (j : Int) := by omega
              clear hla hmx hown3 hR3 hb3 hPlen hPn hr hsu
              go_wp2_with fail
              refine wp_region_held_drew (S := (fun w' => w'.cell? ⟨g2, j, none⟩ = some (.string r))) (by kernel_rfl) ?_ (fun hHeld => ?_)
              · exact hcj
              refine wpAnyH_take (i := 0) (v := ?v1) rfl (by kernel_rfl) (by kernel_rfl) (by kernel_rfl) (fun _ _ _ h => h) (Or.inl ⟨by kernel_rfl, ?hy1⟩) (by assumption) ?_
              case hy1 => (intro w9 hS9; (try dsimp only at hS9); go_simp; (try with_reducible rfl))
              try simp only [Act.put, List.getElem_toArray, List.getElem_cons_succ, List.getElem_cons_zero, List.setIfInBounds_toArray, List.set_cons_zero, List.set_cons_succ]
              refine wpAnyH_take (i := 1) (v := ?v2) rfl (by kernel_rfl) (by kernel_rfl) (by kernel_rfl) (fun _ _ _ h => h) (Or.inl ⟨by kernel_rfl, ?hy2⟩) (by assumption) ?_
              case hy2 => (intro w9 hS9; (try dsimp only at hS9); go_simp; (try with_reducible rfl))
              try simp only [Act.put, List.getElem_toArray, List.getElem_cons_succ, List.getElem_cons_zero, List.setIfInBounds_toArray, List.set_cons_zero, List.set_cons_succ]
              refine wpAnyH_take (i := 2) (v := ?v3) rfl (by kernel_rfl) (by kernel_rfl) (by kernel_rfl) (fun _ _ _ h => h) (Or.inl ⟨by kernel_rfl, ?hy3⟩) (by assumption) ?_
              case hy3 => (intro w9 hS9; (try dsimp only at hS9); go_simp; (try with_reducible rfl))
              try simp only [Act.put, List.getElem_toArray, List.getElem_cons_succ, List.getElem_cons_zero, List.setIfInBounds_toArray, List.set_cons_zero, List.set_cons_succ]
              refine wpAnyH_take (i := 3) (v := ?v4) rfl (by kernel_rfl) (by kernel_rfl) (by kernel_rfl) (fun _ _ _ h => h) (Or.inl ⟨by kernel_rfl, ?hy4⟩) (by assumption) ?_
              case hy4 => (intro w9 hS9; (try dsimp only at hS9); go_simp; (try with_reducible rfl))
              try simp only [Act.put, List.getElem_toArray, List.getElem_cons_succ, List.getElem_cons_zero, List.setIfInBounds_toArray, List.set_cons_zero, List.set_cons_succ]
              refine wpAnyH_take (i := 4) (v := ?v5) rfl (by kernel_rfl) (by kernel_rfl) (by kernel_rfl) (fun _ _ _ h => h) (Or.inl ⟨by kernel_rfl, ?hy5⟩) (by assumption) ?_
              case hy5 => (intro w9 hS9; (try dsimp only at hS9); go_simp; (try with_reducible rfl))
              try simp only [Act.put, List.getElem_toArray, List.getElem_cons_succ, List.getElem_cons_zero, List.setIfInBounds_toArray, List.set_cons_zero, List.set_cons_succ]
              refine wpAnyH_take (i := 5) (v := ?v6) rfl (by kernel_rfl) (by kernel_rfl) (by kernel_rfl) (fun _ _ _ h => h) (Or.inl ⟨by kernel_rfl, ?hy6⟩) (by assumption) ?_
              case hy6 => (intro w9 hS9; (try dsimp only at hS9); go_simp; (try with_reducible rfl))
              try simp only [Act.put, List.getElem_toArray, List.getElem_cons_succ, List.getElem_cons_zero, List.setIfInBounds_toArray, List.set_cons_zero, List.set_cons_succ]
              refine wpAnyH_take (i := 6) (v := ?v7) rfl (by kernel_rfl) (by kernel_rfl) (by kernel_rfl) (fun _ _ _ h => h) (Or.inl ⟨by kernel_rfl, ?hy7⟩) (by assumption) ?_
              case hy7 => (intro w9 hS9; (try dsimp only at hS9); go_simp; (try with_reducible rfl))
              try simp only [Act.put, List.getElem_toArray, List.getElem_cons_succ, List.getElem_cons_zero, List.setIfInBounds_toArray, List.set_cons_zero, List.set_cons_succ]
              refine wpAnyH_take (i := 7) (v := ?v8) rfl (by kernel_rfl) (by kernel_rfl) (by kernel_rfl) (fun _ _ _ h => h) (Or.inl ⟨by kernel_rfl, ?hy8⟩) (by assumption) ?_
              case hy8 => (intro w9 hS9; (try dsimp only at hS9); go_simp; (try with_reducible rfl))
              try simp only [Act.put, List.getElem_toArray, List.getElem_cons_succ, List.getElem_cons_zero, List.setIfInBounds_toArray, List.set_cons_zero, List.set_cons_succ]
              refine wpAnyH_take (i := 8) (v := ?v9) rfl (by kernel_rfl) (by kernel_rfl) (by kernel_rfl) (fun _ _ _ h => h) (Or.inl ⟨by kernel_rfl, ?hy9⟩) (by assumption) ?_
              case hy9 => (intro w9 hS9; (try dsimp only at hS9); go_simp; (try with_reducible rfl))
              try simp only [Act.put, List.getElem_toArray, List.getElem_cons_succ, List.getElem_cons_zero, List.setIfInBounds_toArray, List.set_cons_zero, List.set_cons_succ]
              refine wpAnyH_take (i := 9) (v := ?v10) rfl (by kernel_rfl) (by kernel_rfl) (by kernel_rfl) (fun _ _ _ h => h) (Or.inl ⟨by kernel_rfl, ?hy10⟩) (by assumption) ?_
              case hy10 => (intro w9 hS9; (try dsimp only at hS9); go_simp; (try with_reducible rfl))
              try simp only [Act.put, List.getElem_toArray, List.getElem_cons_succ, List.getElem_cons_zero, List.setIfInBounds_toArray, List.set_cons_zero, List.set_cons_succ]
              refine wpAnyH_take (i := 10) (v := ?v11) rfl (by kernel_rfl) (by kernel_rfl) (by kernel_rfl) (fun _ _ _ h => h) (Or.inl ⟨by kernel_rfl, ?hy11⟩) (by assumption) ?_
              case hy11 => (intro w9 hS9; (try dsimp only at hS9); go_simp; (try with_reducible rfl))
              try simp only [Act.put, List.getElem_toArray, List.getElem_cons_succ, List.getElem_cons_zero, List.setIfInBounds_toArray, List.set_cons_zero, List.set_cons_succ]
              refine wpAnyH_ready (rs := [11]) (by kernel_rfl) (by simp) ?_
              refine AllReadyH.cons rfl (fun K9 hK9 => ?_) AllReadyH.nil
              rw [if_pos (by rfl)]
              go_wp2_with (go_at_call 77; refine (l03Insert_any w.heap.size g3 cap3 PJ (s.extract 0 (0 + 1) ++ r) wr.drew HPl.out HPm.out (Hown3.out.below (Below.refl _ _).drew) HLa.out).mono ?_; rintro e w5 ⟨g5, cap5, rfl, hown5, hb5⟩)
              refine hK9.out _ _ (cell_below hb5 hHeld) (fun hHeld2 => ?_)
              clear hK9 K9
              try simp only [Act.put, List.getElem_toArray, List.getElem_cons_succ, List.getElem_cons_zero, List.setIfInBounds_toArray, List.set_cons_zero, List.set_cons_succ]
              refine wpAnyH_take (i := 12) (v := ?v12) rfl (by kernel_rfl) (by kernel_rfl) (by kernel_rfl) (fun _ _ _ h => h) (Or.inl ⟨by kernel_rfl, ?hy12⟩) (by assumption) ?_
              case hy12 => (intro w9 hS9; (try dsimp only at hS9); go_simp; (try with_reducible rfl))
              try simp only [Act.put, List.getElem_toArray, List.getElem_cons_succ, List.getElem_cons_zero, List.setIfInBounds_toArray, List.set_cons_zero, List.set_cons_succ]
              refine wpAnyH_done (by kernel_rfl) ?_ _
              have HB5 := Lib.hid (HB3.out.drew.trans (hb5.mono HB3.out.drew.size))
              have HO5 := Lib.hid (hown5.lower HB3.out.drew.size)
              have HR5 := Lib.hid ((HR3.out.below (Below.refl _ _).drew).below hb5)
              clear hown5 hb5
              go_wp2
              go_roundw
              case rel => exact ⟨j + 1, by omega, by go_num, g5, cap5, by rw [Hsu.out, List.length_append]; rfl, by rw [Hsu.out, List.length_append]; exact HO5.out, HR5.out, HB5.out⟩
              case measure => simp [intOf]; omega
            · obtain rfl : j = R.length := by omega
              have hall := preL_all n s 0 HdK.out
              rw [← HRR.out] at hall
              have Hown3 := Lib.hid (hall ▸ hown3)
              have Hall := Lib.hid hall
              clear hown3 hR3 hb3 hall hPn
              go_wp2
              go_roundw
              case rel => exact ⟨0 + 1, by omega, by go_num, g3, cap3, by rw [Hall.out], by have := Hown3.out; exact this, HB3.out⟩
              case measure => simp [intOf] <;> omega
        | succ k =>
          have hk1 : (0 : Int) ≤ (k : Int) := by omega
          have hk2 : (k : Int) < (s.size : Int) := by omega
          have hk3 : (k : Int) + 1 < (s.size : Int) := by omega
          have hk4 : (0 : Int) ≤ (k : Int) + 1 := by omega
          have hk5 : (0 : Int) < (k : Int) + 1 := by omega
          have hw1 : IntKind.i64.wrap ((k : Int) + 1 + 1) = (k : Int) + 1 + 1 := IntWalk.i64_in _ (by omega)
          have hT : ((k : Int) + 1 + 1).toNat = k + 1 + 1 := by omega
          have hT2 : k + 1 + 1 - (k + 1) = 1 := by omega
          have hk6 : (k : Int) + 1 + 1 ≤ (s.size : Int) := by omega
          have hk7 : (k : Int) + 1 ≤ (k : Int) + 1 + 1 := by omega
          have hk8 : (0 : Int) ≤ (k : Int) + 1 + 1 := by omega
          have hds := dup_succ (s := s) (i := k) (by omega)
          cases hd : dupAt s.data.toList (k + 1)
          · rw [hd] at hds
            have hq1 : (s[k + 1] == s[k]) = false := hds.symm
            have hq2 : ((s[k + 1].toNat : Int) == (s[k].toNat : Int)) = false := by
              rw [beq_eq_false_iff_ne] at hq1 ⊢; exact fun e => hq1 (UInt8.toNat_inj.1 (by omega))
            clear hds
            go_wp2_with fail
            go_quiet (fail)
            have HdK := Lib.hid hd
            obtain ⟨hx1, hx2, hx3⟩ := ext_drop s (k + 1) (by omega)
            have Hx1 := Lib.hid hx1
            clear hx1 hx3 hd
            go_wp2_with fail
            refine (Ih.out (s.extract ((k + 1) + 1) s.size) _ (by omega) (by omega) (by rw [Hx1.out]; exact rises_sub (List.drop_sublist _ _) Hri.out) (by rw [Hx1.out]; exact tiles_sub (List.drop_sublist _ _) Hti.out)).mono ?_
            rw [Hx1.out]
            rintro e w2 ⟨g2, cap2, rfl, hR, hb2⟩
            obtain ⟨R, hRR⟩ : ∃ R, R = subsP n (s.data.toList.drop ((k + 1) + 1)) := ⟨_, rfl⟩
            rw [← hRR] at hR ⊢
            have HR0 := Lib.hid (hR.lower (Nat.zero_le _))
            have HRR := Lib.hid hRR
            have hRl : R.length ≤ 128 := by
              have := preL_len (n := n) (k := (k + 1)) (j := R.length) hs7 hlt HdK.out (by rw [hRR]; exact Nat.le_refl _)
              unfold preL at this
              rw [List.length_append, List.length_map, List.length_take, ← hRR] at this
              omega
            have HB2 := Lib.hid ((below_drewN Hb.out _).trans (hb2.mono (below_drewN Hb.out _).size))
            have HO2 := Lib.hid ((Hown.out.below (below_drewN (Below.refl _ _) _)).below hb2)
            clear hR hRR hb2
            go_wp2
            obtain ⟨wo, rfl⟩ : ∃ wo : World, wo = wr := ⟨_, rfl⟩
            go_loopw [5, 8] (fun v i wq => ∃ j : Nat, j ≤ R.length ∧ i = .int .i64 (j : Int) ∧ ∃ g3 cap3, v = .slice (some ⟨g3, 0, none⟩) ((preL n s (k + 1) j).map mkT).length cap3 ∧ OwnS wq w.heap.size (.slice (some ⟨g3, 0, none⟩) ((preL n s (k + 1) j).map mkT).length cap3) ((preL n s (k + 1) j).map mkT) ∧ OwnS wq 0 (.slice (some ⟨g2, 0, none⟩) R.length cap2) (R.map mkT) ∧ Below w.heap.size w wq) (fun _ i _ => R.length - (intOf i).toNat)
            case atStart => exact ⟨0, by omega, rfl, g, cap, by rw [preL_zero], by rw [preL_zero]; exact HO2.out, HR0.out, HB2.out⟩
            case round =>
              obtain ⟨j, hj, rfl, g3, cap3, rfl, hown3, hR3, hb3⟩ := hrel
              have HR3 := Lib.hid hR3
              have HB3 := Lib.hid hb3
              have hPlen := preL_len (n := n) (k := (k + 1)) (j := j) hs7 hlt HdK.out (by rw [← HRR.out]; exact hj)
              have hPn : ((preL n s (k + 1) j).map mkT).length = (preL n s (k + 1) j).length := List.length_map ..
              by_cases hlj : j < R.length
              · have hcj := World.ownsRow.cellAt (w := wr) (n := R.length) (by have := hR3; unfold OwnS at this; rw [List.length_map] at this; exact this) j (by omega)
                rw [List.getElem?_map, List.getElem?_map, List.getElem?_eq_getElem hlj] at hcj
                obtain ⟨r, hr⟩ : ∃ r, r = mkT R[j] := ⟨_, rfl⟩
                have hcj : wr.cell? ⟨g2, j, none⟩ = some (.string r) := by rw [hr]; exact hcj
                have hrs : r.size ≤ 1048576 := by
                  rw [hr, mkT_size, subsP_each n _ R[j] (by rw [← HRR.out]; exact List.getElem_mem hlj)]; omega
                have hsu := preL_succ n s (k + 1) j (by omega) (by rw [← HRR.out]; exact hlj)
                have hla : ∀ h0 : 0 < ((preL n s (k + 1) j).map mkT).length, Op.bytesLess (((preL n s (k + 1) j).map mkT)[((preL n s (k + 1) j).map mkT).length - 1]'(Nat.sub_lt h0 Nat.one_pos)).toList (s.extract (k + 1) ((k + 1) + 1) ++ r).toList = true := fun h0 => by
                  have := preL_last Hri.out Hti.out hlt HdK.out (j := j) (by rw [← HRR.out]; exact hlj) h0
                  simp only [← HRR.out] at this
                  rw [hr]; exact this
                simp only [← HRR.out] at hsu
                rw [← hr] at hsu
                have hmx := preL_size (n := n) (s := s) (k := (k + 1)) (j := j) (by omega)
                rw [← hPn] at hPlen
                generalize (preL n s (k + 1) j).map mkT = PJ at hmx hown3 hPn hsu hla hPlen ⊢
                have Hsu := Lib.hid hsu
                have HLa := Lib.hid hla
                have HPm := Lib.hid hmx
                have Hown3 := Lib.hid hown3
                have HPl := Lib.hid (show PJ.length ≤ 1048576 by omega)
                have hx1 : (s.extract (k + 1) ((k + 1) + 1)).size = 1 := by rw [(ext_drop s (k + 1) (by omega)).2.2]; rfl
                have hsum : (9223372036854775807 < 1 + r.size) = False := by rw [eq_iff_iff, iff_false]; omega
                have hlI : (j : Int) < (R.length : Int) := by omega
                have hj0 : (0 : Int) ≤ (j : Int) := by omega
                clear hla hmx hown3 hR3 hb3 hPlen hPn hr hsu
                go_wp2_with fail
                refine wp_region_held_drew (S := (fun w' => w'.cell? ⟨g2, j, none⟩ = some (.string r))) (by kernel_rfl) ?_ (fun hHeld => ?_)
                · exact hcj
                refine wpAnyH_take (i := 0) (v := ?v13) rfl (by kernel_rfl) (by kernel_rfl) (by kernel_rfl) (fun _ _ _ h => h) (Or.inl ⟨by kernel_rfl, ?hy13⟩) (by assumption) ?_
                case hy13 => (intro w9 hS9; (try dsimp only at hS9); go_simp; (try with_reducible rfl))
                try simp only [Act.put, List.getElem_toArray, List.getElem_cons_succ, List.getElem_cons_zero, List.setIfInBounds_toArray, List.set_cons_zero, List.set_cons_succ]
                refine wpAnyH_take (i := 1) (v := ?v14) rfl (by kernel_rfl) (by kernel_rfl) (by kernel_rfl) (fun _ _ _ h => h) (Or.inl ⟨by kernel_rfl, ?hy14⟩) (by assumption) ?_
                case hy14 => (intro w9 hS9; (try dsimp only at hS9); go_simp; (try with_reducible rfl))
                try simp only [Act.put, List.getElem_toArray, List.getElem_cons_succ, List.getElem_cons_zero, List.setIfInBounds_toArray, List.set_cons_zero, List.set_cons_succ]
                refine wpAnyH_take (i := 2) (v := ?v15) rfl (by kernel_rfl) (by kernel_rfl) (by kernel_rfl) (fun _ _ _ h => h) (Or.inl ⟨by kernel_rfl, ?hy15⟩) (by assumption) ?_
                case hy15 => (intro w9 hS9; (try dsimp only at hS9); go_simp; (try with_reducible rfl))
                try simp only [Act.put, List.getElem_toArray, List.getElem_cons_succ, List.getElem_cons_zero, List.setIfInBounds_toArray, List.set_cons_zero, List.set_cons_succ]
                refine wpAnyH_take (i := 3) (v := ?v16) rfl (by kernel_rfl) (by kernel_rfl) (by kernel_rfl) (fun _ _ _ h => h) (Or.inl ⟨by kernel_rfl, ?hy16⟩) (by assumption) ?_
                case hy16 => (intro w9 hS9; (try dsimp only at hS9); go_simp; (try with_reducible rfl))
                try simp only [Act.put, List.getElem_toArray, List.getElem_cons_succ, List.getElem_cons_zero, List.setIfInBounds_toArray, List.set_cons_zero, List.set_cons_succ]
                refine wpAnyH_take (i := 4) (v := ?v17) rfl (by kernel_rfl) (by kernel_rfl) (by kernel_rfl) (fun _ _ _ h => h) (Or.inl ⟨by kernel_rfl, ?hy17⟩) (by assumption) ?_
                case hy17 => (intro w9 hS9; (try dsimp only at hS9); go_simp; (try with_reducible rfl))
                try simp only [Act.put, List.getElem_toArray, List.getElem_cons_succ, List.getElem_cons_zero, List.setIfInBounds_toArray, List.set_cons_zero, List.set_cons_succ]
                refine wpAnyH_take (i := 5) (v := ?v18) rfl (by kernel_rfl) (by kernel_rfl) (by kernel_rfl) (fun _ _ _ h => h) (Or.inl ⟨by kernel_rfl, ?hy18⟩) (by assumption) ?_
                case hy18 => (intro w9 hS9; (try dsimp only at hS9); go_simp; (try with_reducible rfl))
                try simp only [Act.put, List.getElem_toArray, List.getElem_cons_succ, List.getElem_cons_zero, List.setIfInBounds_toArray, List.set_cons_zero, List.set_cons_succ]
                refine wpAnyH_take (i := 6) (v := ?v19) rfl (by kernel_rfl) (by kernel_rfl) (by kernel_rfl) (fun _ _ _ h => h) (Or.inl ⟨by kernel_rfl, ?hy19⟩) (by assumption) ?_
                case hy19 => (intro w9 hS9; (try dsimp only at hS9); go_simp; (try with_reducible rfl))
                try simp only [Act.put, List.getElem_toArray, List.getElem_cons_succ, List.getElem_cons_zero, List.setIfInBounds_toArray, List.set_cons_zero, List.set_cons_succ]
                refine wpAnyH_take (i := 7) (v := ?v20) rfl (by kernel_rfl) (by kernel_rfl) (by kernel_rfl) (fun _ _ _ h => h) (Or.inl ⟨by kernel_rfl, ?hy20⟩) (by assumption) ?_
                case hy20 => (intro w9 hS9; (try dsimp only at hS9); go_simp; (try with_reducible rfl))
                try simp only [Act.put, List.getElem_toArray, List.getElem_cons_succ, List.getElem_cons_zero, List.setIfInBounds_toArray, List.set_cons_zero, List.set_cons_succ]
                refine wpAnyH_take (i := 8) (v := ?v21) rfl (by kernel_rfl) (by kernel_rfl) (by kernel_rfl) (fun _ _ _ h => h) (Or.inl ⟨by kernel_rfl, ?hy21⟩) (by assumption) ?_
                case hy21 => (intro w9 hS9; (try dsimp only at hS9); go_simp; (try with_reducible rfl))
                try simp only [Act.put, List.getElem_toArray, List.getElem_cons_succ, List.getElem_cons_zero, List.setIfInBounds_toArray, List.set_cons_zero, List.set_cons_succ]
                refine wpAnyH_take (i := 9) (v := ?v22) rfl (by kernel_rfl) (by kernel_rfl) (by kernel_rfl) (fun _ _ _ h => h) (Or.inl ⟨by kernel_rfl, ?hy22⟩) (by assumption) ?_
                case hy22 => (intro w9 hS9; (try dsimp only at hS9); go_simp; (try with_reducible rfl))
                try simp only [Act.put, List.getElem_toArray, List.getElem_cons_succ, List.getElem_cons_zero, List.setIfInBounds_toArray, List.set_cons_zero, List.set_cons_succ]
                refine wpAnyH_take (i := 10) (v := ?v23) rfl (by kernel_rfl) (by kernel_rfl) (by kernel_rfl) (fun _ _ _ h => h) (Or.inl ⟨by kernel_rfl, ?hy23⟩) (by assumption) ?_
                case hy23 => (intro w9 hS9; (try dsimp only at hS9); go_simp; (try with_reducible rfl))
                try simp only [Act.put, List.getElem_toArray, List.getElem_cons_succ, List.getElem_cons_zero, List.setIfInBounds_toArray, List.set_cons_zero, List.set_cons_succ]
                refine wpAnyH_ready (rs := [11]) (by kernel_rfl) (by simp) ?_
                refine AllReadyH.cons rfl (fun K9 hK9 => ?_) AllReadyH.nil
                rw [if_pos (by rfl)]
                go_wp2_with (go_at_call 77; refine (l03Insert_any w.heap.size g3 cap3 PJ (s.extract (k + 1) ((k + 1) + 1) ++ r) wr.drew HPl.out HPm.out (Hown3.out.below (Below.refl _ _).drew) HLa.out).mono ?_; rintro e w5 ⟨g5, cap5, rfl, hown5, hb5⟩)
                refine hK9.out _ _ (cell_below hb5 hHeld) (fun hHeld2 => ?_)
                clear hK9 K9
                try simp only [Act.put, List.getElem_toArray, List.getElem_cons_succ, List.getElem_cons_zero, List.setIfInBounds_toArray, List.set_cons_zero, List.set_cons_succ]
                refine wpAnyH_take (i := 12) (v := ?v24) rfl (by kernel_rfl) (by kernel_rfl) (by kernel_rfl) (fun _ _ _ h => h) (Or.inl ⟨by kernel_rfl, ?hy24⟩) (by assumption) ?_
                case hy24 => (intro w9 hS9; (try dsimp only at hS9); go_simp; (try with_reducible rfl))
                try simp only [Act.put, List.getElem_toArray, List.getElem_cons_succ, List.getElem_cons_zero, List.setIfInBounds_toArray, List.set_cons_zero, List.set_cons_succ]
                refine wpAnyH_done (by kernel_rfl) ?_ _
                have HB5 := Lib.hid (HB3.out.drew.trans (hb5.mono HB3.out.drew.size))
                have HO5 := Lib.hid (hown5.lower HB3.out.drew.size)
                have HR5 := Lib.hid ((HR3.out.below (Below.refl _ _).drew).below hb5)
                clear hown5 hb5
                go_wp2
                go_roundw
                case rel => exact ⟨j + 1, by omega, by go_num, g5, cap5, by rw [Hsu.out, List.length_append]; rfl, by rw [Hsu.out, List.length_append]; exact HO5.out, HR5.out, HB5.out⟩
                case measure => simp [intOf]; omega
              · obtain rfl : j = R.length := by omega
                have hall := preL_all n s (k + 1) HdK.out
                rw [← HRR.out] at hall
                have Hown3 := Lib.hid (hall ▸ hown3)
                have Hall := Lib.hid hall
                clear hown3 hR3 hb3 hall hPn
                go_wp2
                go_roundw
                case rel => exact ⟨(k + 1) + 1, by omega, by go_num, g3, cap3, by rw [Hall.out], by have := Hown3.out; exact this, HB3.out⟩
                case measure => simp [intOf] <;> omega
          · rw [hd] at hds
            have hq1 : (s[k + 1] == s[k]) = true := hds.symm
            have hq2 : ((s[k + 1].toNat : Int) == (s[k].toNat : Int)) = true := by
              rw [beq_iff_eq] at hq1 ⊢; rw [hq1]
            have Hdu := Lib.hid (subL_dup (n := n) hd)
            clear hds hd
            go_wp2_with fail
            go_quiet (fail)
            go_wp2
            go_roundw
            case rel => exact ⟨k + 1 + 1, by omega, by go_num, g, cap, by rw [Hdu.out], by rw [Hdu.out]; exact Hown.out, below_drewN Hb.out _⟩
            case measure => simp [intOf]; omega
      · have hltI : ¬ (k : Int) + z ≤ (s.size : Int) := by omega
        obtain rfl : k = s.size - n := by omega
        have hwr : IntKind.i64.wrap (((s.size - n : Nat) : Int) + z) = ((s.size - n : Nat) : Int) + z := IntWalk.i64_in _ (by omega)
        go_wp2
        go_ret
        have e : subL n s (s.size - n) = (subsP (n + 1) s.data.toList).map mkT := by
          unfold subL; rw [subsP_at, show s.data.toList.length = s.size from Array.length_toList]
        have e2 : (subL n s (s.size - n)).length = (subsP (n + 1) s.data.toList).length := by rw [e, List.length_map]
        have h := Hown.out
        rw [e2, e] at h
        exact ⟨g, cap, by rw [e2]; rfl, h, Hb.out⟩
end Go.Proofs.Ythpjinfkagllfaa

