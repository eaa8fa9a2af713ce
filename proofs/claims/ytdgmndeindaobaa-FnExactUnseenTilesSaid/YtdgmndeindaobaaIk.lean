/- Tile sets: CoversWord and UnseenTiles of both sides. Conditions: the readings; strings of at most 2^20 bytes. -/
import Derived.Test.YtdgmndeindaobaaIj
import Derived.Test.YtdgmndeindaobaaN
namespace Go.Proofs.Ytdgmndeindaobaa
open Go.RowKit
/-! ### All tiles are a pile, and how many of each there are -/
theorem idxB_no {s : ByteArray} {ch : Int} (h0 : 0 ≤ ch) (h1 : ch < 256) (h : idxB s ch = -1) (i : Nat) (hi : i < s.size) : (s[i].toNat : Int) ≠ ch := by
  rcases indexByte_spec s.data.toList ch.toNat.toUInt8 with ⟨h2, h3⟩ | ⟨j, hj, h2, h3, h4⟩
  · exact fun e => h3 i (by simpa using hi) ((u8_of h0 h1 _).2 e)
  · unfold idxB at h; omega
theorem idxB_yes {s : ByteArray} {ch : Int} {k : Nat} (h0 : 0 ≤ ch) (h1 : ch < 256) (h : idxB s ch = (k : Int)) (hk : k < s.size) : (s[k].toNat : Int) = ch := by
  rcases indexByte_spec s.data.toList ch.toNat.toUInt8 with ⟨h2, h3⟩ | ⟨j, hj, h2, h3, h4⟩
  · unfold idxB at h; omega
  · unfold idxB at h
    obtain rfl : j = k := by omega
    exact (u8_of h0 h1 _).1 h3
theorem til_ge {x : TileD} (H : TilP x) (i : Nat) (hi : i < x.letters.size) : 97 ≤ x.letters[i].toNat ∧ x.letters[i].toNat ≤ 122 := by
  have := H.sm i hi
  simp [smallI] at this
  omega
theorem til_63 {x : TileD} (H : TilP x) (i : Nat) (hi : i < x.letters.size) : x.letters[i] ≠ 63 := by
  intro e
  have h := (til_ge H i hi).1
  rw [e] at h
  exact absurd h (by decide)
theorem til_lt {x : TileD} (H : TilP x) (i k : Nat) (hk : k < x.letters.size) (h : i < k) : x.letters[i].toNat < x.letters[k].toNat := by
  have : ∀ d i, i + d + 1 = k → (h1 : i < x.letters.size) → x.letters[i].toNat < x.letters[k].toNat := by
    intro d
    induction d with
    | zero => intro i e h1; have := H.up i (by omega); simp only [show i + 1 = k by omega] at this; exact this
    | succ d ih => intro i e h1; have h2 := ih (i + 1) (by omega) (by omega); have h3 := H.up i (by omega); omega
  exact this (k - i - 1) i (by omega) (by omega)
theorem allTo_63 {x : TileD} (H : TilP x) (j : Nat) (hj : j ≤ x.letters.size) : (allTo x j).count 63 = x.blanks.toNat := by
  induction j with
  | zero => rw [allTo_zero]; simp
  | succ j ih =>
    have hc : j < x.counts.length := by have := H.lc; omega
    rw [allTo_succ x j (by omega) hc, List.count_append, ih (by omega), List.count_replicate]
    have := til_63 H j (by omega)
    simp [this]
theorem allTo_none {x : TileD} (H : TilP x) {b : UInt8} (hb : b ≠ 63) (hi : idxB x.letters (b.toNat : Int) = -1) (j : Nat) (hj : j ≤ x.letters.size) : (allTo x j).count b = 0 := by
  induction j with
  | zero => rw [allTo_zero, List.count_replicate]; have : ¬ (63 : UInt8) = b := fun e => hb e.symm; simp [this]
  | succ j ih =>
    have hc : j < x.counts.length := by have := H.lc; omega
    rw [allTo_succ x j (by omega) hc, List.count_append, ih (by omega), List.count_replicate]
    have := idxB_no (by omega) (by have := UInt8.toNat_lt b; omega) hi j (by omega)
    have : ¬ x.letters[j] = b := fun e => this (by rw [e])
    simp [this]
theorem allTo_at {x : TileD} (H : TilP x) {b : UInt8} {k : Nat} (hb : b ≠ 63) (hi : idxB x.letters (b.toNat : Int) = (k : Int)) (hk : k < x.letters.size) (hkc : k < x.counts.length) (j : Nat) (hj : j ≤ x.letters.size) :
    (allTo x j).count b = if k < j then x.counts[k].toNat else 0 := by
  have hkb : x.letters[k] = b := by
    have := idxB_yes (by omega) (by have := UInt8.toNat_lt b; omega) hi hk
    exact UInt8.toNat_inj.1 (by omega)
  induction j with
  | zero => rw [allTo_zero, List.count_replicate]; have : ¬ (63 : UInt8) = b := fun e => hb e.symm; simp [this]
  | succ j ih =>
    have hc : j < x.counts.length := by have := H.lc; omega
    rw [allTo_succ x j (by omega) hc, List.count_append, ih (by omega), List.count_replicate]
    by_cases e : j = k
    · subst e
      simp [hkb]
    · have hne : ¬ x.letters[j] = b := by
        intro e2
        rw [← hkb] at e2
        rcases Nat.lt_or_gt_of_ne e with h | h
        · have := til_lt H j k hk h; rw [e2] at this; omega
        · have := til_lt H k j (by omega) h; rw [e2] at this; omega
      have : (k < j + 1) = (k < j) := by rw [eq_iff_iff]; omega
      simp [hne, this]
theorem allTo_mem {x : TileD} (H : TilP x) (j : Nat) (hj : j ≤ x.letters.size) : ∀ b ∈ allTo x j, tileI b.toNat = true ∧ ∀ i, j ≤ i → (h : i < x.letters.size) → b.toNat ≤ x.letters[i].toNat := by
  induction j with
  | zero =>
    intro b hb
    rw [allTo_zero] at hb
    obtain ⟨_, rfl⟩ := List.mem_replicate.1 hb
    refine ⟨by decide, fun i _ h => ?_⟩
    have := (til_ge H i h).1
    show 63 ≤ _
    omega
  | succ j ih =>
    intro b hb
    have hc : j < x.counts.length := by have := H.lc; omega
    rw [allTo_succ x j (by omega) hc, List.mem_append] at hb
    rcases hb with hb | hb
    · obtain ⟨h1, h2⟩ := ih (by omega) b hb
      exact ⟨h1, fun i hi h => h2 i (by omega) h⟩
    · obtain ⟨_, rfl⟩ := List.mem_replicate.1 hb
      refine ⟨?_, fun i hi h => Nat.le_of_lt (til_lt H j i h (by omega))⟩
      have := H.sm j (by omega)
      simp [tileI, this]
theorem allTo_rises {x : TileD} (H : TilP x) (j : Nat) (hj : j ≤ x.letters.size) : Rises (allTo x j) := by
  induction j with
  | zero => rw [allTo_zero]; unfold Rises; rw [List.pairwise_replicate]; right; decide
  | succ j ih =>
    have hc : j < x.counts.length := by have := H.lc; omega
    rw [allTo_succ x j (by omega) hc]
    unfold Rises
    rw [List.pairwise_append]
    refine ⟨ih (by omega), by rw [List.pairwise_replicate]; right; exact Nat.le_refl _, fun a ha b hb => ?_⟩
    obtain ⟨_, rfl⟩ := List.mem_replicate.1 hb
    exact (allTo_mem H j (by omega) a ha).2 j (Nat.le_refl _) (by omega)
theorem allB_pile {x : TileD} (H : TilP x) : isPile (allB x) = true := by
  have h1 : tileAll (allB x).data.toList = true := tileAll_of fun c hc => (allTo_mem H _ (Nat.le_refl _) c hc).1
  have h2 : sortedB (allB x).data.toList = true := (sortedB_iff _).2 (allTo_rises H _ (Nat.le_refl _))
  have h3 := allB_le H
  simp [isPile, h1, h2, h3]
theorem cntOf_all0 {x : TileD} (H : TilP x) : cntOf (allB x).data.toList 0 = x.blanks := by
  rw [cntOf_count _ 0 (by omega)]
  show (((allTo x x.letters.size).count 63 : Nat) : Int) = _
  rw [allTo_63 H _ (Nat.le_refl _)]
  have := H.b0
  omega
theorem cntOf_allS {x : TileD} (H : TilP x) (k : Nat) (hk : k < 26) : cntOf (allB x).data.toList (k + 1) = cntF x (97 + (k : Int)) := by
  rw [cntOf_count _ (k + 1) (by omega)]
  have ht : (tileB (k + 1)).toNat = 97 + k := by rw [tileB_toNat _ (by omega), if_neg (by omega)]; omega
  have h63 : tileB (k + 1) ≠ 63 := fun e => by rw [e] at ht; have : (63 : UInt8).toNat = 63 := rfl; omega
  have hch : ((tileB (k + 1)).toNat : Int) = 97 + (k : Int) := by omega
  have hc63 : (97 + (k : Int)) ≠ 63 := by omega
  show (((allTo x x.letters.size).count (tileB (k + 1)) : Nat) : Int) = _
  rcases idxB_cases x.letters (97 + (k : Int)) with hi | ⟨m, hm, hi⟩
  · rw [cntF_none hc63 hi, allTo_none H h63 (by rw [hch]; exact hi) _ (Nat.le_refl _)]; rfl
  · have hmc : m < x.counts.length := by have := H.lc; omega
    rw [cntF_at hc63 hi hmc, allTo_at H h63 (by rw [hch]; exact hi) hm hmc _ (Nat.le_refl _), if_pos hm]
    have := (H.co m hmc).1
    omega
/-! ### What a word needs -/
def sumTo (g : Nat → Int) : Nat → Int
  | 0 => 0
  | n + 1 => sumTo g n + g n
theorem sumTo_congr {g g' : Nat → Int} : ∀ n, (∀ k, k < n → g k = g' k) → sumTo g n = sumTo g' n
  | 0, _ => rfl
  | n + 1, h => by rw [sumTo, sumTo, sumTo_congr n fun k hk => h k (by omega), h n (by omega)]
theorem sumTo_zero {g : Nat → Int} : ∀ n, (∀ k, k < n → g k = 0) → sumTo g n = 0
  | 0, _ => rfl
  | n + 1, h => by rw [sumTo, sumTo_zero n fun k hk => h k (by omega), h n (by omega)]; rfl
theorem sumTo_one {g g' : Nat → Int} {p : Nat} {d : Int} (hp : g' p = g p + d) (ho : ∀ k, k ≠ p → g' k = g k) : ∀ n, sumTo g' n = sumTo g n + if p < n then d else 0
  | 0 => by simp [sumTo]
  | n + 1 => by
    rw [sumTo, sumTo, sumTo_one hp ho n]
    by_cases e : n = p
    · subst e; rw [hp, if_neg (by omega), if_pos (by omega)]; omega
    · rw [ho n e]
      by_cases h : p < n
      · rw [if_pos h, if_pos (by omega)]; omega
      · rw [if_neg h, if_neg (by omega)]; omega
theorem sumTo_bd {g : Nat → Int} {m : Int} : ∀ n, (∀ k, k < n → 0 ≤ g k ∧ g k ≤ m) → 0 ≤ sumTo g n ∧ sumTo g n ≤ n * m
  | 0, _ => by simp [sumTo]
  | n + 1, h => by
    have h1 := sumTo_bd n fun k hk => h k (by omega)
    have h2 := h n (by omega)
    rw [sumTo]
    have : ((n + 1 : Nat) : Int) * m = n * m + m := by rw [Int.natCast_add, Int.add_mul]; simp
    omega
theorem cntOf_cons (c : UInt8) (l : List UInt8) (k : Nat) : cntOf (c :: l) k = cntOf l k + if placeI c.toNat = (k : Int) then 1 else 0 := by
  unfold cntOf
  rw [List.filter_cons]
  by_cases h : placeI c.toNat = (k : Int)
  · simp [h]
  · simp [h]
theorem small_place {c : UInt8} (h : smallI c.toNat = true) : ∃ q : Nat, q < 26 ∧ placeI c.toNat = ((q + 1 : Nat) : Int) ∧ c.toNat = 97 + q := by
  have h2 := h
  simp [smallI] at h2
  refine ⟨c.toNat - 97, by omega, ?_, by omega⟩
  unfold placeI
  rw [if_neg (by omega), if_pos h]
  omega
theorem needR_sum : ∀ (l : List UInt8) (f : Nat → Int), smallAll l = true → (∀ p, 0 ≤ f p) → needR f l = sumTo (fun k => max 0 (cntOf l (k + 1) - f (k + 1))) 26
  | [], f, _, hf => by
    rw [needR, sumTo_zero]
    intro k _
    have := hf (k + 1)
    rw [cntOf_nil]
    show max 0 ((0 : Int) - f (k + 1)) = 0
    omega
  | c :: r, f, hs, hf => by
    have hs2 : smallI c.toNat = true ∧ smallAll r = true := by simpa [smallAll] using hs
    obtain ⟨q, hq, hp, hcq⟩ := small_place hs2.1
    rw [needR_cons f c r (q + 1) hp]
    split
    · rename_i h0
      rw [needR_sum r _ hs2.2 (fun p => by have := hf p; unfold upd; split <;> omega)]
      refine sumTo_congr 26 fun k _ => ?_
      rw [cntOf_cons, hp]
      by_cases e : k = q
      · subst e; simp [upd]; omega
      · have e2 : ¬ k + 1 = q + 1 := by omega
        have e3 : ¬ ((q + 1 : Nat) : Int) = ((k + 1 : Nat) : Int) := by omega
        rw [upd, if_neg e2, if_neg e3]; omega
    · rename_i h0
      have hz : f (q + 1) = 0 := by have := hf (q + 1); omega
      rw [needR_sum r f hs2.2 hf]
      rw [sumTo_one (g := fun k => max 0 (cntOf r (k + 1) - f (k + 1))) (g' := fun k => max 0 (cntOf (c :: r) (k + 1) - f (k + 1))) (p := q) (d := 1), if_pos hq]
      · omega
      · show max 0 (cntOf (c :: r) (q + 1) - f (q + 1)) = max 0 (cntOf r (q + 1) - f (q + 1)) + 1
        rw [cntOf_cons, hp, hz, if_pos rfl]
        have := (cntOf_le r (q + 1)).1
        omega
      · intro k e
        have e3 : ¬ ((q + 1 : Nat) : Int) = ((k + 1 : Nat) : Int) := by omega
        show max 0 (cntOf (c :: r) (k + 1) - f (k + 1)) = max 0 (cntOf r (k + 1) - f (k + 1))
        rw [cntOf_cons, hp, if_neg e3]; omega
/-- How many blanks a word needs, by letters. -/
def covG (x : TileD) (s : ByteArray) (k : Nat) : Int := max 0 (cntOf s.data.toList (k + 1) - cntF x (97 + (k : Int)))
noncomputable def covV (x : TileD) (s : ByteArray) : Bool := tilB x && isWord s && decide (sumTo (covG x s) 26 ≤ x.blanks)
theorem word_small {s : ByteArray} (h : isWord s = true) : smallAll s.data.toList = true := by
  simp only [isWord, Bool.and_eq_true] at h; exact h.1
theorem covV_need {x : TileD} {s : ByteArray} (hT : tilB x = true) (hW : isWord s = true) : decide (needR (cntOf (allB x).data.toList) s.data.toList ≤ cntOf (allB x).data.toList 0) = covV x s := by
  have H := tilB_P hT
  rw [covV, hT, hW, cntOf_all0 H, needR_sum _ _ (word_small hW) (fun p => (cntOf_le _ p).1)]
  rw [sumTo_congr (g' := covG x s) 26 fun k hk => by rw [covG, cntOf_allS H k hk]]
  simp
theorem covG_bd {x : TileD} {s : ByteArray} (H : TilP x) (hs : s.size ≤ 12) (k : Nat) : 0 ≤ covG x s k ∧ covG x s k ≤ 12 := by
  have h1 := cntOf_le s.data.toList (k + 1)
  have h2 := cntF_bd H (97 + (k : Int))
  have h3 : s.data.toList.length = s.size := Array.length_toList
  unfold covG
  omega
theorem cov_bd {x : TileD} {s : ByteArray} (H : TilP x) (hs : s.size ≤ 12) (k : Nat) (hk : k ≤ 26) : 0 ≤ sumTo (covG x s) k ∧ sumTo (covG x s) k ≤ 312 := by
  have h := sumTo_bd k fun j _ => covG_bd H hs j
  have : (k : Int) * 12 ≤ 26 * 12 := by omega
  omega
theorem cnt_take {s : ByteArray} (hw : smallAll s.data.toList = true) (m k : Nat) (hm : m < s.size) :
    cntOf (s.data.toList.take (m + 1)) (k + 1) = cntOf (s.data.toList.take m) (k + 1) + if (s[m].toNat : Int) = 97 + (k : Int) then 1 else 0 := by
  have h1 := all_getD hw m hm
  obtain ⟨q, hq, hp, hcq⟩ := small_place h1
  rw [take_snoc s m hm, cntOf_snoc _ _ (q + 1) hp]
  unfold upd
  by_cases e : k = q
  · subst e; rw [if_pos rfl, if_pos (by omega)]
  · rw [if_neg (by omega), if_neg (by omega)]; omega
theorem cnt_take_bd {s : ByteArray} (hs : s.size ≤ 12) (m k : Nat) : 0 ≤ cntOf (s.data.toList.take m) k ∧ cntOf (s.data.toList.take m) k ≤ 12 := by
  have h := cntOf_le (s.data.toList.take m) k
  have : (s.data.toList.take m).length ≤ s.size := by simp; omega
  omega
attribute [local irreducible] Calls
theorem l00Max_any (a b : Int) (w : World) : Calls Try.prog 50 #[.int .i64 a, .int .i64 b] w fun e w' => e = .returned (.int .i64 (max a b)) ∧ w = w' := by
  by_cases h : b < a
  · go_enter Try.func50, Try.ntmps50
    go_wp2
    go_ret
    exact ⟨ret_int (by omega), rfl⟩
  · go_enter Try.func50, Try.ntmps50
    go_wp2
    go_ret
    exact ⟨ret_int (by omega), rfl⟩
set_option maxHeartbeats 2000000 in
set_option maxRecDepth 20000 in
theorem specCoversWord_any (v : Value) (x : TileD) (s : ByteArray) (w : World) (hv : TilR w v x) (hs : s.size ≤ 1048576) :
    Calls Try.prog 29 #[v, .string s] w fun e w' => e = .returned (.bool (covV x s)) ∧ Below w.heap.size w w' := by
  have hms : s.size ≤ maxLen := by unfold maxLen; omega
  obtain ⟨a, c, b, d, rfl⟩ := hv.shape
  have hb0 : Below w.heap.size w (w.alloc (.cells #[.string x.letters, .slice a x.values.length c, .slice b x.counts.length d, .int .i64 x.blanks] 27)) := (Below.refl _ _).alloc (Nat.le_refl _) _
  have HX := Lib.hid (hv.box 27)
  clear hv
  cases hT : tilB x
  · have HT := Lib.hid hT
    clear hT
    go_enter Try.func29, Try.ntmps29
    go_wp2_with fail
    refine (l02Ok_any _ a c b d x _ HX.out.c0 HX.out.c1 HX.out.c2 HX.out.c3 HX.out.l HX.out.v HX.out.n HX.out.k).mono ?_
    rw [HT.out]
    rintro e w1 ⟨rfl, q, rfl⟩
    go_wp2
    go_ret
    exact ⟨ret_bool (by rw [covV, HT.out]; rfl), below_drewN hb0 q⟩
  · have HT := Lib.hid hT
    clear hT
    cases hW : isWord s
    · have HW := Lib.hid hW
      clear hW
      go_enter Try.func29, Try.ntmps29
      go_wp2_with fail
      refine (l02Ok_any _ a c b d x _ HX.out.c0 HX.out.c1 HX.out.c2 HX.out.c3 HX.out.l HX.out.v HX.out.n HX.out.k).mono ?_
      rw [HT.out]
      rintro e w1 ⟨rfl, q, rfl⟩
      go_wp2_with fail
      refine (specIsWord_any _ _ hms).mono ?_
      rw [HW.out]
      rintro e w2 ⟨rfl, rfl⟩
      go_wp2
      go_ret
      exact ⟨ret_bool (by rw [covV, HW.out, Bool.and_false]; rfl), below_drewN hb0 q⟩
    · have HW := Lib.hid hW
      have hs12 := (word_tiles hW).2
      have HP := Lib.hid (tilB_P HT.out)
      clear hW
      go_enter Try.func29, Try.ntmps29
      go_wp2_with fail
      refine (l02Ok_any _ a c b d x _ HX.out.c0 HX.out.c1 HX.out.c2 HX.out.c3 HX.out.l HX.out.v HX.out.n HX.out.k).mono ?_
      rw [HT.out]
      rintro e w1 ⟨rfl, q, rfl⟩
      have HXq := Lib.hid (HX.out.drewN q)
      have HB := Lib.hid (below_drewN hb0 q)
      clear HX hb0
      generalize (w.alloc (.cells #[.string x.letters, .slice a x.values.length c, .slice b x.counts.length d, .int .i64 x.blanks] 27)).drewN q = wq at HXq HB ⊢
      go_wp2_with fail
      refine (specIsWord_any _ _ hms).mono ?_
      rw [HW.out]
      rintro e w2 ⟨rfl, rfl⟩
      go_wp2
      go_loopw [5, 6] (fun t i wr => ∃ k q2 : Nat, k ≤ 26 ∧ i = .int .u8 (97 + (k : Int)) ∧ t = .int .i64 (sumTo (covG x s) k) ∧ wr = wq.drewN q2) (fun _ i _ => 123 - (intOf i).toNat)
      case atStart => exact ⟨0, 0, by omega, rfl, rfl, rfl⟩
      case round =>
        obtain ⟨k, q2, hk, rfl, rfl, hw⟩ := hrel
        obtain ⟨wo, hwo⟩ : ∃ wo : World, wr = wo := ⟨_, rfl⟩
        subst hwo
        have Hw := Lib.hid hw
        have HXr := Lib.hid (show TilBox wr w.heap.size x a c b d by rw [hw]; exact HXq.out.drewN q2)
        clear hw
        by_cases hlt : k < 26
        · obtain ⟨hn1, hn2⟩ := cov_bd HP.out hs12 k hk
          obtain ⟨hc1, hc2⟩ := covG_bd HP.out hs12 k
          obtain ⟨hf1, hf2⟩ := cntF_bd HP.out (97 + (k : Int))
          go_wp2
          go_loopw [7, 8] (fun n i w' => ∃ m : Nat, m ≤ s.size ∧ i = .int .i64 (m : Int) ∧ n = .int .i64 (cntOf (s.data.toList.take m) (k + 1)) ∧ w' = wr) (fun _ i _ => s.size - (intOf i).toNat)
          case atStart => exact ⟨0, by omega, rfl, by simp [cntOf_nil], rfl⟩
          case round =>
            obtain ⟨m, hm, rfl, rfl, rfl⟩ := hrel
            obtain ⟨ht1, ht2⟩ := cnt_take_bd hs12 m (k + 1)
            by_cases hml : m < s.size
            · have Hct := Lib.hid (cnt_take (word_small HW.out) m k hml)
              cases hd : ((s[m].toNat : Int) == 97 + (k : Int))
              · have Hd := Lib.hid (beq_eq_false_iff_ne.1 hd)
                go_wp2
                go_roundw
                case rel => exact ⟨m + 1, by omega, by go_num, by rw [Hct.out, if_neg Hd.out, Int.add_zero], trivial⟩
                case measure => simp [intOf]; omega
              · have Hd := Lib.hid (eq_of_beq hd)
                go_wp2
                go_roundw
                case rel => exact ⟨m + 1, by omega, by go_num, by rw [Hct.out, if_pos Hd.out], trivial⟩
                case measure => simp [intOf]; omega
            · have Hm := Lib.hid (show s.data.toList.take m = s.data.toList from by obtain rfl : m = s.size := (by omega); exact take_all s)
              go_wp2_with fail
              refine (l02Count_any _ x a c b d _ _ HXr.out HP.out (by omega) (by omega)).mono ?_
              rintro e w3 ⟨rfl, q3, rfl⟩
              go_wp2_with fail
              refine (l00Max_any _ _ _).mono ?_
              rintro e w3 ⟨rfl, rfl⟩
              rw [Hm.out, show max 0 (cntOf s.data.toList (k + 1) - cntF x (97 + (k : Int))) = covG x s k from rfl]
              go_wp2
              go_roundw
              case rel => exact ⟨k + 1, q2 + q3, by omega, by go_num, rfl, by rw [Hw.out, drewN_two]⟩
              case measure => simp [intOf]; omega
        · have k3 := HXr.out.c3
          obtain rfl : k = 26 := by omega
          go_wp2
          go_ret
          exact ⟨ret_bool (by rw [covV, HT.out, HW.out]; simp), by rw [Hw.out]; exact below_drewN HB.out q2⟩
set_option maxHeartbeats 2000000 in
theorem implCoversWord_any (v : Value) (x : TileD) (s : ByteArray) (w : World) (hv : TilR w v x) (hs : s.size ≤ 1048576) :
    Calls Try.prog 30 #[v, .string s] w fun e w' => e = .returned (.bool (covV x s)) ∧ Below w.heap.size w w' := by
  have hms : s.size ≤ maxLen := by unfold maxLen; omega
  obtain ⟨a, c, b, d, rfl⟩ := hv.shape
  have hb0 : Below w.heap.size w (w.alloc (.cells #[.string x.letters, .slice a x.values.length c, .slice b x.counts.length d, .int .i64 x.blanks] 27)) := (Below.refl _ _).alloc (Nat.le_refl _) _
  have HX := Lib.hid (hv.box 27)
  obtain ⟨c0, c1, c2, c3, hl, hvv, hnn, hk⟩ := hv.box 27
  clear hv hl hvv hnn hk
  cases hT : tilB x
  · have HT := Lib.hid hT
    clear hT
    go_enter Try.func30, Try.ntmps30
    go_wp2_with fail
    refine (implValidTiles_any _ x _ HX.out.read).mono ?_
    rw [HT.out]
    rintro e w1 ⟨rfl, hb1⟩
    go_wp2
    go_ret
    exact ⟨ret_bool (by rw [covV, HT.out]; rfl), hb0.trans (hb1.mono hb0.size)⟩
  · have HT := Lib.hid hT
    clear hT
    cases hW : isWord s
    all_goals
      have HW := Lib.hid hW
      clear hW
      go_enter Try.func30, Try.ntmps30
      go_wp2_with fail
      refine (implValidTiles_any _ x _ HX.out.read).mono ?_
      rw [HT.out]
      rintro e w1 ⟨rfl, hb1⟩
      have hbb := hb0.trans (hb1.mono hb0.size)
      have d0 := cell_below hb1 c0
      have d1 := cell_below hb1 c1
      have d2 := cell_below hb1 c2
      have d3 := cell_below hb1 c3
      have HX2 := Lib.hid (HX.out.below hb1)
      clear c0 c1 c2 c3 HX hb0 hb1
      go_wp2_with fail
      refine (implIsWord_any _ _ hms).mono ?_
      rw [HW.out]
      rintro e w2 ⟨rfl, hb2⟩
      have hbb2 := hbb.trans (hb2.mono hbb.size)
      have e0 := cell_below hb2 d0
      have e1 := cell_below hb2 d1
      have e2 := cell_below hb2 d2
      have e3 := cell_below hb2 d3
      have HX3 := Lib.hid (HX2.out.below hb2)
      clear d0 d1 d2 d3 HX2 hb2 hbb
    · go_wp2
      go_ret
      exact ⟨ret_bool (by rw [covV, HW.out, Bool.and_false]; rfl), hbb2⟩
    · have HP := Lib.hid (tilB_P HT.out)
      have hal := allB_le HP.out
      go_wp2_with fail
      refine (allTiles_any _ x _ HX3.out.read HP.out).mono ?_
      rintro e w3 ⟨rfl, hb3⟩
      have hbb3 := hbb2.trans (hb3.mono hbb2.size)
      clear e0 e1 e2 e3 HX3 hbb2 hb3
      go_wp2_with fail
      refine (countsOf_any _ _ (by omega) (pile_parts (allB_pile HP.out)).1).mono ?_
      rintro e w4 ⟨rfl, hb4⟩
      have hbb4 := hbb3.trans (hb4.mono hbb3.size)
      go_wp2_with fail
      refine (canMake_any _ _ _ (cntOf_range _ (by omega)) hs (word_tiles HW.out).1).mono ?_
      rw [covV_need HT.out HW.out]
      rintro e w5 ⟨rfl, hb5⟩
      go_wp2
      go_ret
      exact ⟨rfl, hbb4.trans (hb5.mono hbb4.size)⟩
noncomputable def unsV (x : TileD) (s : ByteArray) : ByteArray × Int := if tilB x = true then takeV (allB x) s else (⟨#[]⟩, 1)
theorem unsV_no {x : TileD} (h : tilB x = false) (s : ByteArray) : unsV x s = (⟨#[]⟩, 1) := by simp [unsV, h]
theorem unsV_yes {x : TileD} (h : tilB x = true) (s : ByteArray) : unsV x s = takeV (allB x) s := by simp [unsV, h]
theorem unsV_no2 {x : TileD} {s : ByteArray} (h : isPile s = false) : unsV x s = (⟨#[]⟩, 1) := by
  unfold unsV
  split
  · exact takeV_no (.inr h)
  · rfl
set_option maxHeartbeats 2000000 in
theorem implUnseenTiles_any (v : Value) (x : TileD) (s : ByteArray) (w : World) (hv : TilR w v x) (hs : s.size ≤ 1048576) :
    Calls Try.prog 32 #[v, .string s] w fun e w' => e = .returned (.tuple #[.string (unsV x s).1, .int .i64 (unsV x s).2]) ∧ Below w.heap.size w w' := by
  have hms : s.size ≤ maxLen := by unfold maxLen; omega
  obtain ⟨a, c, b, d, rfl⟩ := hv.shape
  have hb0 : Below w.heap.size w (w.alloc (.cells #[.string x.letters, .slice a x.values.length c, .slice b x.counts.length d, .int .i64 x.blanks] 27)) := (Below.refl _ _).alloc (Nat.le_refl _) _
  have HX := Lib.hid (hv.box 27)
  obtain ⟨c0, c1, c2, c3, hl, hvv, hnn, hk⟩ := hv.box 27
  clear hv hl hvv hnn hk
  cases hT : tilB x
  · have HT := Lib.hid hT
    clear hT
    go_enter Try.func32, Try.ntmps32
    go_wp2_with fail
    refine (implValidTiles_any _ x _ HX.out.read).mono ?_
    rw [HT.out]
    rintro e w1 ⟨rfl, hb1⟩
    go_wp2
    go_ret2
    exact ⟨ret_si (unsV_no HT.out _), hb0.trans (hb1.mono hb0.size)⟩
  · have HT := Lib.hid hT
    clear hT
    cases hW : isPile s
    all_goals
      have HW := Lib.hid hW
      clear hW
      go_enter Try.func32, Try.ntmps32
      go_wp2_with fail
      refine (implValidTiles_any _ x _ HX.out.read).mono ?_
      rw [HT.out]
      rintro e w1 ⟨rfl, hb1⟩
      have hbb := hb0.trans (hb1.mono hb0.size)
      have d0 := cell_below hb1 c0
      have d1 := cell_below hb1 c1
      have d2 := cell_below hb1 c2
      have d3 := cell_below hb1 c3
      have HX2 := Lib.hid (HX.out.below hb1)
      clear c0 c1 c2 c3 HX hb0 hb1
      go_wp2_with fail
      refine (ivp_any _ _ hms).mono ?_
      rw [HW.out]
      rintro e w2 ⟨rfl, hb2⟩
      have hbb2 := hbb.trans (hb2.mono hbb.size)
      have e0 := cell_below hb2 d0
      have e1 := cell_below hb2 d1
      have e2 := cell_below hb2 d2
      have e3 := cell_below hb2 d3
      have HX3 := Lib.hid (HX2.out.below hb2)
      clear d0 d1 d2 d3 HX2 hb2 hbb
    · go_wp2
      go_ret2
      exact ⟨ret_si (unsV_no2 HW.out), hbb2⟩
    · have HP := Lib.hid (tilB_P HT.out)
      have hal := allB_le HP.out
      go_wp2_with fail
      refine (allTiles_any _ x _ HX3.out.read HP.out).mono ?_
      rintro e w3 ⟨rfl, hb3⟩
      have hbb3 := hbb2.trans (hb3.mono hbb2.size)
      clear e0 e1 e2 e3 HX3 hbb2 hb3
      go_wp2_with fail
      refine (implTakeTiles_any _ _ _ (by omega) hs).mono ?_
      rw [← unsV_yes HT.out]
      rintro e w4 ⟨rfl, hb4⟩
      go_wp2
      go_ret2
      exact ⟨rfl, hbb3.trans (hb4.mono hbb3.size)⟩
set_option maxHeartbeats 2000000 in
theorem specUnseenTiles_any (v : Value) (x : TileD) (s : ByteArray) (w : World) (hv : TilR w v x) (hs : s.size ≤ 1048576) :
    Calls Try.prog 31 #[v, .string s] w fun e w' => e = .returned (.tuple #[.string (unsV x s).1, .int .i64 (unsV x s).2]) ∧ Below w.heap.size w w' := by
  have hms : s.size ≤ maxLen := by unfold maxLen; omega
  obtain ⟨a, c, b, d, rfl⟩ := hv.shape
  have hb0 : Below w.heap.size w (w.alloc (.cells #[.string x.letters, .slice a x.values.length c, .slice b x.counts.length d, .int .i64 x.blanks] 27)) := (Below.refl _ _).alloc (Nat.le_refl _) _
  have HX := Lib.hid (hv.box 27)
  clear hv
  cases hT : tilB x
  · have HT := Lib.hid hT
    clear hT
    go_enter Try.func31, Try.ntmps31
    go_wp2_with fail
    refine (l02Ok_any _ a c b d x _ HX.out.c0 HX.out.c1 HX.out.c2 HX.out.c3 HX.out.l HX.out.v HX.out.n HX.out.k).mono ?_
    rw [HT.out]
    rintro e w1 ⟨rfl, q, rfl⟩
    go_wp2
    go_ret2
    exact ⟨ret_si (unsV_no HT.out _), below_drewN hb0 q⟩
  · have HT := Lib.hid hT
    clear hT
    cases hW : isPile s
    all_goals
      have HW := Lib.hid hW
      clear hW
      go_enter Try.func31, Try.ntmps31
      go_wp2_with fail
      refine (l02Ok_any _ a c b d x _ HX.out.c0 HX.out.c1 HX.out.c2 HX.out.c3 HX.out.l HX.out.v HX.out.n HX.out.k).mono ?_
      rw [HT.out]
      rintro e w1 ⟨rfl, q, rfl⟩
      have HXq := Lib.hid (HX.out.drewN q)
      have hbq := below_drewN hb0 q
      clear HX hb0
      generalize (w.alloc (.cells #[.string x.letters, .slice a x.values.length c, .slice b x.counts.length d, .int .i64 x.blanks] 27)).drewN q = wq at HXq hbq ⊢
      go_wp2_with fail
      refine (svp_any _ _ hms).mono ?_
      rw [HW.out]
      rintro e w2 ⟨rfl, hb2⟩
      have hbb2 := hbq.trans (hb2.mono hbq.size)
      have HX3 := Lib.hid (HXq.out.below hb2)
      clear HXq hb2 hbq
    · go_wp2
      go_ret2
      exact ⟨ret_si (unsV_no2 HW.out), hbb2⟩
    · have HP := Lib.hid (tilB_P HT.out)
      have hal := allB_le HP.out
      go_wp2_with fail
      refine (l02All_any _ x a c b d _ HX3.out HP.out).mono ?_
      rintro e w3 ⟨rfl, hb3⟩
      have hbb3 := hbb2.trans (hb3.mono hbb2.size)
      clear HX3 hbb2 hb3
      cases hR : (takeR (allB x).data.toList s.data.toList).2.isEmpty
      all_goals
        go_wp2_with fail
        refine (l03Take_any _ _ _ (by omega) hs).mono ?_
        rw [hR]
        rintro e w4 ⟨rfl, hb4⟩
        have hbb4 := hbb3.trans (hb4.mono hbb3.size)
        have HR := Lib.hid hR
        clear hR
        go_wp2
        go_ret2
        first
          | exact ⟨ret_si (by rw [unsV_yes HT.out]; exact takeV_not (allB_pile HP.out) HW.out HR.out), hbb4⟩
          | exact ⟨ret_si (by rw [unsV_yes HT.out]; exact takeV_yes (allB_pile HP.out) HW.out HR.out), hbb4⟩
end Go.Proofs.Ytdgmndeindaobaa
