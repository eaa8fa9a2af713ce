/- Contracts of CanMake and what it calls, in the program and in the reference. Conditions: strings of at most 2^20 bytes; the word of tiles. -/
import Derived.Test.YthpjinfkagllfaaR
namespace Go.Proofs.Ythpjinfkagllfaa
open Go.RowKit

/-- Counts, none below 0. -/
def posC (f : Nat → Int) : Nat → Int := fun k => max (f k) 0
theorem needR_congr : ∀ (l : List UInt8) (f g : Nat → Int), tileAll l = true → (∀ p, p < 27 → f p = g p) → needR f l = needR g l
  | [], _, _, _, _ => rfl
  | c :: r, f, g, ht, h => by
    have hc : tileI c.toNat = true := by simp [tileAll] at ht; exact ht.1
    have hr : tileAll r = true := by simp [tileAll] at ht ⊢; exact ht.2
    obtain ⟨p, hp, hp2⟩ := placeI_nat hc
    simp only [needR, hp, Int.toNat_natCast, h p hp2]
    split
    · refine needR_congr r _ _ hr fun q hq => ?_
      unfold upd; split
      · rfl
      · exact h q hq
    · rw [needR_congr r f g hr h]
theorem needR_cons (f : Nat → Int) (c : UInt8) (r : List UInt8) (p : Nat) (hp : placeI c.toNat = p) : needR f (c :: r) = if 0 < f p then needR (upd f p (f p - 1)) r else 1 + needR f r := by
  simp only [needR, hp, Int.toNat_natCast]
theorem needR_range : ∀ (l : List UInt8) (f : Nat → Int), 0 ≤ needR f l ∧ needR f l ≤ l.length
  | [], f => by simp [needR]
  | c :: r, f => by
    simp only [needR]
    have h1 := needR_range r (upd f (placeI c.toNat).toNat (f (placeI c.toNat).toNat - 1))
    have h2 := needR_range r f
    simp only [List.length_cons]
    split <;> omega
theorem drop_cons_ba (s : ByteArray) (k : Nat) (h : k < s.size) : s.data.toList.drop k = s[k] :: s.data.toList.drop (k + 1) := List.drop_eq_getElem_cons (by simpa using h)
theorem tileAll_drop {l : List UInt8} (h : tileAll l = true) (k : Nat) : tileAll (l.drop k) = true := tiles_sub (List.drop_sublist k l) h

/-- Where the walk of canMake stands: the counts, and how many blanks are left. -/
def CanAt (f : Nat → Int) (l : List UInt8) (i : Nat) (g : Nat → Int) (b : Int) : Prop :=
  (∀ p, p < 27 → -(i : Int) ≤ g p ∧ g p ≤ 2097152) ∧ needR f l = f 0 - b + needR (posC g) (l.drop i) ∧ f 0 - (i : Int) ≤ b ∧ b ≤ f 0
theorem CanAt.step {f : Nat → Int} {s : ByteArray} {i : Nat} {g : Nat → Int} {b : Int} (h : CanAt f s.data.toList i g b) (hi : i < s.size) (p : Nat) (hp : placeI s[i].toNat = p) (hp2 : p < 27) (ht : tileAll s.data.toList = true) :
    (g p - 1 < 0 → CanAt f s.data.toList (i + 1) (upd g p (g p - 1)) (b - 1)) ∧ (¬ g p - 1 < 0 → CanAt f s.data.toList (i + 1) (upd g p (g p - 1)) b) := by
  obtain ⟨h1, h2, h3, h4⟩ := h
  rw [drop_cons_ba s i hi, needR_cons _ _ _ p hp] at h2
  have hg : ∀ q, q < 27 → -((i + 1 : Nat) : Int) ≤ upd g p (g p - 1) q ∧ upd g p (g p - 1) q ≤ 2097152 := by
    intro q hq
    have := h1 q hq
    unfold upd
    split
    · rename_i e; subst e; omega
    · omega
  have hd := tileAll_drop ht (i + 1)
  constructor
  · intro hn
    have hz : ¬ 0 < posC g p := by unfold posC; omega
    rw [if_neg hz] at h2
    refine ⟨hg, ?_, by omega, by omega⟩
    rw [h2, needR_congr _ (posC (upd g p (g p - 1))) (posC g) hd ?_]
    · omega
    · intro q _
      unfold posC upd
      split
      · rename_i e; subst e; omega
      · rfl
  · intro hn
    have hz : 0 < posC g p := by unfold posC; omega
    rw [if_pos hz] at h2
    refine ⟨hg, ?_, by omega, by omega⟩
    rw [h2, needR_congr _ (posC (upd g p (g p - 1))) (upd (posC g) p (posC g p - 1)) hd ?_]
    intro q _
    unfold posC upd
    split
    · rename_i e; subst e; omega
    · rfl
set_option maxHeartbeats 1000000 in
theorem canMake_any (f : Nat → Int) (s : ByteArray) (w : World) (hf : ∀ j, 0 ≤ f j ∧ f j ≤ 2097152) (hs : s.size ≤ 1048576) (ht : tileAll s.data.toList = true) :
    Calls Try.prog 63 #[.agg (cs f), .string s] w fun e w' => e = .returned (.bool (decide (needR f s.data.toList ≤ f 0))) ∧ Below w.heap.size w w' := by
  have Ht := Lib.hid ht; clear ht
  have Hf := Lib.hid hf
  have hc0 : (w.alloc (.cells (cs f) 53)).cell? ⟨w.heap.size, 0, none⟩ = some (.int .i64 (f 0)) := by
    rw [cell_of_row _ _ 0 _ _ _ (heap_alloc_new w _), cs_get f 0 (by omega)]
  have hc1 : (cs f)[0]? = some (.int .i64 (f 0)) := cs_get f 0 (by omega)
  obtain ⟨hf0, hf1⟩ := hf 0
  clear hf
  go_enter Try.func63, Try.ntmps63
  go_wp2
  clear hc0 hc1
  go_loopw [5, 6, 7] (fun bl i _ wr => ∃ (k : Nat) (g : Nat → Int) (b : Int), k ≤ s.size ∧ i = .int .i64 k ∧ bl = .int .i64 b ∧ CanAt f s.data.toList k g b ∧ wr.heap[w.heap.size]? = some (.cells (cs g) 53 (0, 0)) ∧ Below w.heap.size w wr) (fun _ i _ _ => s.size - (intOf i).toNat)
  case atStart =>
    refine ⟨0, f, f 0, Nat.zero_le _, rfl, rfl, ⟨fun p _ => ?_, ?_, by omega, by omega⟩, heap_alloc_new w _, (Below.refl _ _).alloc (Nat.le_refl _) _⟩
    · have := Hf.out p; omega
    · have : posC f = f := by funext p; have := Hf.out p; unfold posC; omega
      rw [this]; simp
  case round =>
    obtain ⟨k, g, b, hk, rfl, rfl, hat, h1, hb⟩ := hrel
    by_cases hlt : k < s.size
    · obtain ⟨p, hp, hp27⟩ := placeI_nat (all_get Ht.out k hlt)
      obtain ⟨hgp1, hgp2⟩ := hat.1 p hp27
      have hb1 := hat.2.2.1
      have hb2 := hat.2.2.2
      have hcell : wr.cell? ⟨w.heap.size, p, none⟩ = some (.int .i64 (g p)) := by
        rw [cell_of_row wr _ p _ _ _ h1, cs_get _ p hp27]
      have hfr : wr.frozen? ⟨w.heap.size, p, none⟩ = false := frozen_of_row wr _ p _ _ h1
      have hset : (wr.setCell ⟨w.heap.size, p, none⟩ (.int .i64 (g p - 1))).heap[w.heap.size]? = some (.cells (cs (upd g p (g p - 1))) 53 (0, 0)) := by
        rw [heap_setCell_same _ _ _ _ _ _ h1, cs_set _ _ _ hp27]
      have hset3 : (wr.setCell ⟨w.heap.size, p, none⟩ (.int .i64 (g p - 1))).cell? ⟨w.heap.size, p, none⟩ = some (.int .i64 (g p - 1)) := by
        rw [cell_of_row _ _ p _ _ _ hset, cs_get _ p hp27]; simp [upd]
      have Hset := Lib.hid hset; clear hset h1
      have Hp := Lib.hid hp; clear hp
      have Hst := Lib.hid (hat.step hlt p Hp.out hp27 Ht.out)
      clear hat
      by_cases hn : g p - 1 < 0
      · go_wp2_with fail
        refine (place_any _ _ (byte_range _).1 (byte_range _).2).mono ?_
        rintro e w' ⟨rfl, rfl⟩
        rw [Hp.out]
        go_wp2
        go_roundw
        case rel => exact ⟨k + 1, _, b - 1, by omega, by go_num, by go_num, Hst.out.1 hn, Hset.out, hb.setCell (p := ⟨w.heap.size, p, none⟩) (Nat.le_refl _) _⟩
        case measure => simp [intOf]; omega
      · go_wp2_with fail
        refine (place_any _ _ (byte_range _).1 (byte_range _).2).mono ?_
        rintro e w' ⟨rfl, rfl⟩
        rw [Hp.out]
        go_wp2
        go_roundw
        case rel => exact ⟨k + 1, _, b, by omega, by go_num, rfl, Hst.out.2 (by omega), Hset.out, hb.setCell (p := ⟨w.heap.size, p, none⟩) (Nat.le_refl _) _⟩
        case measure => simp [intOf]; omega
    · have h2 := hat.2.1
      rw [List.drop_eq_nil_of_le (by simp; omega)] at h2
      simp only [needR] at h2
      have H2 := Lib.hid h2; clear h2 hat
      go_wp2
      go_ret
      exact ⟨ret_bool (by have := H2.out; rw [decide_eq_decide]; omega), hb⟩
theorem takeR_one {L : List UInt8} (hr : Rises L) (ht : tileAll L = true) {c : UInt8} {p : Nat} (hp : placeI c.toNat = p) (hp2 : p < 27) :
    (0 < cntOf L p → (takeR L [c]).2 = [] ∧ ∀ q, q < 27 → cntOf (takeR L [c]).1 q = upd (cntOf L) p (cntOf L p - 1) q) ∧ (¬ 0 < cntOf L p → (takeR L [c]).2 ≠ []) := by
  have htc : tileAll [c] = true := by
    have : tileI c.toNat = true := (tile_iff c).2 ⟨p, hp2, (placeI_iff c p hp2).1 hp⟩
    simp [tileAll, this]
  have hc : ∀ q, cntOf [c] q = if q = p then 1 else 0 := by
    intro q
    unfold cntOf
    by_cases h : q = p
    · subst h; simp [hp]
    · have : ((p : Int) == (q : Int)) = false := by rw [beq_eq_false_iff_ne]; omega
      simp [hp, this, h]
  constructor
  · intro h
    have hge : geTo (cntOf L) (cntOf [c]) 27 := by
      intro q hq
      rw [hc]
      have := cntOf_le L q
      split
      · rename_i e; subst e; omega
      · omega
    obtain ⟨h1, h2⟩ := takeR_ok hr (by simp [Rises]) ht htc hge
    refine ⟨h1, fun q hq => ?_⟩
    rw [h2, cntOf_pileOf _ q hq (by unfold subC; have := hge q hq; omega)]
    unfold subC upd
    rw [hc]
    split
    · rename_i e; subst e; rfl
    · omega
  · intro h
    refine takeR_no ht htc fun hge => h ?_
    have := hge p hp2
    rw [hc, if_pos rfl] at this
    omega
theorem ba_slice (s : ByteArray) (k : Nat) (h : k < s.size) : (s.extract k (k + 1)).data.toList = [s[k]] := by
  simp only [ByteArray.data_extract, Array.toList_extract, List.extract_eq_take_drop]
  rw [show k + 1 - k = 1 by omega, List.drop_eq_getElem_cons (by simpa using h)]
  rfl

set_option maxHeartbeats 1000000 in
theorem l03Need_any (a s : ByteArray) (w : World) (ha : isPile a = true) (hs : s.size ≤ 1048576) (ht : tileAll s.data.toList = true) :
    Calls Try.prog 71 #[.string a, .string s] w fun e w' => e = .returned (.int .i64 (needR (cntOf a.data.toList) s.data.toList)) ∧ Below w.heap.size w w' := by
  obtain ⟨ha1, ha2, ha3⟩ := pile_parts ha
  have HA1 := Lib.hid ha1; have HA2 := Lib.hid ha2; clear ha1 ha2 ha
  have Ht := Lib.hid ht; clear ht
  go_enter Try.func71, Try.ntmps71
  go_wp2
  go_loopw [5, 6, 7, 8, 9] (fun lf nd i _ _ wr => ∃ (k : Nat) (L : List UInt8) (n : Int), k ≤ s.size ∧ i = .int .i64 k ∧ lf = .string ⟨L.toArray⟩ ∧ nd = .int .i64 n ∧ L.length ≤ 120 ∧ 0 ≤ n ∧ n ≤ k ∧ Rises L ∧ tileAll L = true ∧
      needR (cntOf a.data.toList) s.data.toList = n + needR (cntOf L) (s.data.toList.drop k) ∧ Below w.heap.size w wr) (fun _ _ i _ _ _ => s.size - (intOf i).toNat)
  case atStart => exact ⟨0, a.data.toList, 0, Nat.zero_le _, rfl, rfl, rfl, by simpa using ha3, by omega, by omega, HA2.out, HA1.out, by simp, Below.refl _ _⟩
  case round =>
    obtain ⟨k, L, n, hk, rfl, rfl, rfl, hL, hn0, hn1, hri, hti, heq, hb⟩ := hrel
    have Hri := Lib.hid hri; have Hti := Lib.hid hti; have Heq := Lib.hid heq; clear hri hti heq
    by_cases hlt : k < s.size
    · obtain ⟨p, hp, hp27⟩ := placeI_nat (all_get Ht.out k hlt)
      have Hp := Lib.hid hp; clear hp
      go_wp2_with fail
      refine (l03Take_any ⟨L.toArray⟩ (s.extract k (k + 1)) _ (by show L.toArray.size ≤ _; simp; omega) (by simp; omega)).mono ?_
      rintro e w1 ⟨rfl, hb1⟩
      rw [ba_slice s k hlt]
      have hb1' := hb.trans (hb1.mono hb.size)
      have hone := takeR_one Hri.out Hti.out Hp.out hp27
      have Hone := Lib.hid hone; clear hone
      have hsub := takeR_sub L [s[k]]
      have hsl := hsub.length_le
      have Hsub := Lib.hid hsub; clear hsub
      have heq2 := Heq.out
      rw [drop_cons_ba s k hlt, needR_cons _ _ _ p Hp.out] at heq2
      have Heq2 := Lib.hid heq2; clear heq2
      by_cases hc : 0 < cntOf L p
      · have hok : (takeR L [s[k]]).2.isEmpty = true := by rw [(Hone.out.1 hc).1]; rfl
        go_wp2
        go_roundw
        case rel =>
          refine ⟨k + 1, _, n, by omega, by go_num, rfl, rfl, by omega, hn0, by omega, rises_sub Hsub.out Hri.out, tiles_sub Hsub.out Hti.out, ?_, hb1'⟩
          rw [Heq2.out, if_pos hc, needR_congr _ _ _ (tileAll_drop Ht.out _) (Hone.out.1 hc).2]
        case measure => simp [intOf]; omega
      · have hok : (takeR L [s[k]]).2.isEmpty = false := by rw [List.isEmpty_eq_false_iff]; exact Hone.out.2 hc
        have Hc := Lib.hid hc; clear hc
        go_wp2
        go_roundw
        case rel =>
          refine ⟨k + 1, L, n + 1, by omega, by go_num, rfl, by go_num, hL, by omega, by omega, Hri.out, Hti.out, ?_, hb1'⟩
          rw [Heq2.out, if_neg (by have := Hc.out; omega)]; omega
        case measure => simp [intOf]; omega
    · go_wp2
      go_ret
      have h := Heq.out
      rw [List.drop_eq_nil_of_le (by simp; omega)] at h
      exact ⟨ret_int (by rw [h]; simp [needR]), hb⟩
theorem cntOf_zero_succ (s : ByteArray) (k : Nat) (h : k < s.size) : cntOf (s.data.toList.take (k + 1)) 0 = cntOf (s.data.toList.take k) 0 + if s[k] = 63 then 1 else 0 := by
  rw [take_snoc s k h, cntOf_append]
  congr 1
  unfold cntOf
  have h0 := placeI_iff s[k] 0 (by omega)
  have hb : (tileB 0) = 63 := rfl
  rw [hb] at h0
  by_cases hc : s[k] = 63
  · rw [hc]; rfl
  · have h1 : (placeI s[k].toNat == ((0 : Nat) : Int)) = false := by rw [beq_eq_false_iff_ne]; exact fun h => hc (h0.1 h)
    simp only [List.filter_cons, h1]
    simp [hc]
theorem l03Blanks_any (s : ByteArray) (w : World) (hs : s.size ≤ 1048576) :
    Calls Try.prog 72 #[.string s] w fun e w' => e = .returned (.int .i64 (cntOf s.data.toList 0)) ∧ w = w' := by
  go_enter Try.func72, Try.ntmps72
  go_wp2
  go_loop [3, 4] (fun n i => ∃ k : Nat, k ≤ s.size ∧ i = .int .i64 k ∧ n = .int .i64 (cntOf (s.data.toList.take k) 0)) (fun _ i => s.size - (intOf i).toNat)
  case atStart => exact ⟨0, Nat.zero_le _, rfl, by simp [cntOf]⟩
  case round =>
    obtain ⟨k, hk, rfl, rfl⟩ := hrel
    have hle := cntOf_le (s.data.toList.take k) 0
    obtain ⟨h1, h2⟩ := hle
    have h3 : (s.data.toList.take k).length ≤ k := List.length_take_le _ _
    by_cases hlt : k < s.size
    · have hsu := cntOf_zero_succ s k hlt
      have Hsu := Lib.hid hsu; clear hsu
      by_cases hc : s[k] = 63
      · have hd : ((s[k].toNat : Int) == 63) = true := by rw [hc]; rfl
        have Hc := Lib.hid hc; clear hc
        go_wp2
        go_round
        case rel => exact ⟨k + 1, by omega, by go_num, by rw [Hsu.out, if_pos Hc.out]⟩
        case measure => simp [intOf]; omega
      · have hd : ((s[k].toNat : Int) == 63) = false := by
          rw [beq_eq_false_iff_ne]; intro h; exact hc (UInt8.toNat_inj.1 (by show _ = 63; omega))
        have Hc := Lib.hid hc; clear hc
        go_wp2
        go_round
        case rel => exact ⟨k + 1, by omega, by go_num, by rw [Hsu.out, if_neg Hc.out]; go_num⟩
        case measure => simp [intOf]; omega
    · go_wp2
      go_ret
      obtain rfl : k = s.size := by omega
      exact ⟨by rw [take_all]; rfl, rfl⟩
theorem l03Can_any (a s : ByteArray) (w : World) (ha : isPile a = true) (hs : s.size ≤ 1048576) (ht : tileAll s.data.toList = true) :
    Calls Try.prog 34 #[.string a, .string s] w fun e w' => e = .returned (.bool (decide (needR (cntOf a.data.toList) s.data.toList ≤ cntOf a.data.toList 0))) ∧ Below w.heap.size w w' := by
  have ha3 := (pile_parts ha).2.2
  have HA := Lib.hid ha; have Ht := Lib.hid ht; clear ha ht
  go_enter Try.func34, Try.ntmps34
  go_wp2_with fail
  refine (l03Need_any _ _ _ HA.out hs Ht.out).mono ?_
  rintro e w1 ⟨rfl, hb1⟩
  go_wp2_with fail
  refine (l03Blanks_any _ _ (by omega)).mono ?_
  rintro e w2 ⟨rfl, rfl⟩
  go_wp2
  go_ret
  exact ⟨rfl, hb1⟩
theorem word_tiles {s : ByteArray} (h : isWord s = true) : tileAll s.data.toList = true ∧ s.size ≤ 12 := by
  simp only [isWord, inI, Bool.and_eq_true, decide_eq_true_eq] at h
  refine ⟨tileAll_of fun c hc => ?_, by omega⟩
  have h1 := h.1
  unfold smallAll at h1
  rw [List.all_eq_true] at h1
  simp [tileI, h1 c hc]
/-- What CanMake comes to. -/
def canV (a s : ByteArray) : Bool := isPile a && isWord s && decide (needR (cntOf a.data.toList) s.data.toList ≤ cntOf a.data.toList 0)
end Go.Proofs.Ythpjinfkagllfaa
