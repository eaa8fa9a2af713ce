/- strings.ToLower of a word with capitals: where it is a word of the same length, every byte was a letter. No program. -/
import Derived.Test.YtenfdjnmkmeaiaaDoorM
import Derived.Shelf.Strings.CaseAny
namespace Go.Proofs.YtenfdjnmkmeaiaaDoor
open Go.Shelf Go.Lib

/-- The bytes of a placed word. -/
def plcI (c : Int) : Bool := smallI c || capI c
def plcAll (l : List UInt8) : Bool := l.all fun c => plcI c.toNat
def isPlc (s : ByteArray) : Bool := plcAll s.data.toList && inI s.size 1 12
/-- The tile of a letter that is placed. -/
def tileOf (c : UInt8) : UInt8 := if capI c.toNat then 63 else c
def plcTiles (l : List UInt8) : List UInt8 := pileOf (cntOf (l.map tileOf))
def plcV (s : ByteArray) : ByteArray := if isPlc s then ⟨(plcTiles s.data.toList).toArray⟩ else ByteArray.empty

theorem tileOf_tile {c : UInt8} (h : plcI c.toNat = true) : tileI (tileOf c).toNat = true := by
  unfold tileOf
  split
  · rfl
  · rename_i hc
    have : smallI c.toNat = true := by simpa [plcI, hc] using h
    simp [tileI, this]
theorem tiles_all {l : List UInt8} (h : plcAll l = true) : tileAll (l.map tileOf) = true := by
  unfold tileAll plcAll at *
  rw [List.all_eq_true] at h ⊢
  intro x hx
  obtain ⟨c, hc, rfl⟩ := List.mem_map.1 hx
  exact tileOf_tile (h c hc)

/-- The encoding of a rune: one byte below 128, or a first byte from 128 on. -/
theorem enc_ascii (r : Int) (h : ∀ b ∈ encodeRune r, b.toNat < 128) : (encodeRune r).length = 1 := by
  unfold encodeRune at h ⊢
  by_cases h1 : 0 ≤ r ∧ r ≤ 127
  · rw [encodeRuneZ_one h1.1 h1.2]; rfl
  · exfalso
    have bad : ∀ (x : Int), 128 ≤ x → x < 256 → ¬ (x.toNat.toUInt8.toNat < 128) := by
      intro x h0 h1
      have : x.toNat.toUInt8.toNat = x.toNat := by simp; omega
      omega
    by_cases h2 : 128 ≤ r ∧ r ≤ 2047
    · rw [encodeRuneZ_two h2.1 h2.2] at h
      exact bad _ (by omega) (by omega) (h _ (List.mem_map_of_mem List.mem_cons_self))
    · by_cases h3 : (2048 ≤ r ∧ r < 55296) ∨ (57343 < r ∧ r ≤ 65535)
      · rw [encodeRuneZ_three h3] at h
        exact bad _ (by omega) (by omega) (h _ (List.mem_map_of_mem List.mem_cons_self))
      · by_cases h4 : 65536 ≤ r ∧ r ≤ 1114111
        · rw [encodeRuneZ_four h4.1 h4.2] at h
          exact bad _ (by omega) (by omega) (h _ (List.mem_map_of_mem List.mem_cons_self))
        · rw [encodeRuneZ_bad (by omega)] at h
          exact bad 239 (by omega) (by omega) (h _ (List.mem_map_of_mem List.mem_cons_self))
theorem lower_fffd : ¬ ∀ b ∈ encodeRune (toLowerU ((65533 : Nat) : Int)), b.toNat < 128 := by
  have e : encodeRune (toLowerU ((65533 : Nat) : Int)) = [239, 191, 189] := by kernel_rfl
  rw [e]
  intro h
  exact absurd (h 239 (by simp)) (by decide)

/-- Where the lower-case text has bytes below 128 alone, it is not longer; as long: so had the text. -/
theorem lower_len : ∀ (n : Nat) (l : List UInt8), l.length ≤ n → (∀ b ∈ toLowerD l, b.toNat < 128) →
    (toLowerD l).length ≤ l.length ∧ ((toLowerD l).length = l.length → ∀ b ∈ l, b.toNat < 128)
  | _, [], _, _ => ⟨Nat.le_refl _, fun _ b hb => by cases hb⟩
  | 0, _ :: _, h, _ => by simp at h
  | n + 1, c :: t, hl, h => by
    simp only [List.length_cons] at hl
    by_cases hc : c.toNat < 128
    · have e : toLowerD (c :: t) = [lowerB c] ++ toLowerD t := by
        unfold toLowerD
        rw [mapD_step toLowerU (c :: t) (by simp), decodeL_ascii c t hc]
        dsimp only
        have hb := lower_byte ⟨c.toNat, hc⟩
        simp only [UInt8.ofNat_toNat] at hb
        rw [if_pos (toLowerU_range c.toNat (by omega)).1, hb, List.drop_succ_cons, List.drop_zero]
      rw [e] at h ⊢
      obtain ⟨h1, h2⟩ := lower_len n t (by omega) fun b hb => h b (by simp [hb])
      refine ⟨by simp; omega, fun hlen b hb => ?_⟩
      rcases List.mem_cons.1 hb with rfl | hb
      · exact hc
      · exact h2 (by simp at hlen; omega) b hb
    · have hstep := mapD_step toLowerU (c :: t) (by simp)
      have hdl := decodeL_le (c :: t) (by simp)
      have henc := encode_decode (c :: t) (by simp)
      by_cases hv : (decodeL (c :: t)).1 = 65533 ∧ (decodeL (c :: t)).2 = 1
      · exfalso
        rw [hv.1, if_pos (toLowerU_range 65533 (by omega)).1] at hstep
        refine lower_fffd fun b hb => h b ?_
        unfold toLowerD
        rw [hstep]
        exact List.mem_append_left _ hb
      · have henc := henc hv
        have hlen1 := (encodeRuneZ_length ((decodeL (c :: t)).1 : Int)).1
        have hlen : (encodeRune ((decodeL (c :: t)).1 : Int)).length = (decodeL (c :: t)).2 := by
          rw [henc, List.length_take]; omega
        have hge : 1 ≤ (decodeL (c :: t)).2 := by rw [← hlen]; simpa [encodeRune] using hlen1
        have hge2 : 2 ≤ (decodeL (c :: t)).2 := by
          rcases Nat.lt_or_ge 1 (decodeL (c :: t)).2 with h' | h'
          · exact h'
          · exfalso
            have e1 : (decodeL (c :: t)).2 = 1 := by omega
            rw [e1] at henc
            by_cases hr : (decodeL (c :: t)).1 ≤ 127
            · unfold encodeRune at henc
              rw [encodeRuneZ_one (by omega) (by omega)] at henc
              simp at henc
              have := congrArg UInt8.toNat henc
              simp at this
              omega
            · have hone : (encodeRune ((decodeL (c :: t)).1 : Int)).length = 1 := by rw [henc]; simp
              unfold encodeRune at hone
              rw [List.length_map] at hone
              by_cases h2 : (decodeL (c :: t)).1 ≤ 2047
              · rw [encodeRuneZ_two (by omega) (by omega)] at hone; simp at hone
              · by_cases h3 : (2048 ≤ ((decodeL (c :: t)).1 : Int) ∧ ((decodeL (c :: t)).1 : Int) < 55296) ∨ (57343 < ((decodeL (c :: t)).1 : Int) ∧ ((decodeL (c :: t)).1 : Int) ≤ 65535)
                · rw [encodeRuneZ_three h3] at hone; simp at hone
                · by_cases h4 : 65536 ≤ ((decodeL (c :: t)).1 : Int) ∧ ((decodeL (c :: t)).1 : Int) ≤ 1114111
                  · rw [encodeRuneZ_four h4.1 h4.2] at hone; simp at hone
                  · rw [encodeRuneZ_bad (by omega)] at hone; simp at hone
        have hdrop : ((c :: t).drop (decodeL (c :: t)).2).length = (c :: t).length - (decodeL (c :: t)).2 := by simp
        have hle0 : ∀ b ∈ toLowerD ((c :: t).drop (decodeL (c :: t)).2), b.toNat < 128 := fun b hb => h b (by
          unfold toLowerD at hb ⊢
          rw [hstep]; exact List.mem_append_right _ hb)
        obtain ⟨h1, _⟩ := lower_len n _ (by rw [hdrop]; simp only [List.length_cons]; omega) hle0
        have hhead : (if 0 ≤ toLowerU ((decodeL (c :: t)).1 : Int) then encodeRune (toLowerU ((decodeL (c :: t)).1 : Int)) else []).length ≤ 1 := by
          split
          · rename_i h0
            refine Nat.le_of_eq (enc_ascii _ fun b hb => h b ?_)
            unfold toLowerD
            rw [hstep, if_pos h0]
            exact List.mem_append_left _ hb
          · simp
        have htot : (toLowerD (c :: t)).length < (c :: t).length := by
          unfold toLowerD at h1 ⊢
          rw [hstep, List.length_append]
          rw [hdrop] at h1
          omega
        exact ⟨Nat.le_of_lt htot, fun he => by omega⟩

set_option maxRecDepth 100000 in
theorem lowerB_small : ∀ i : Fin 256, smallI (lowerB (UInt8.ofNat i.val)).toNat = plcI (i.val : Int) ∨ 128 ≤ i.val := by decide
theorem map_len4 (f : Int → Int) : ∀ (n : Nat) (l : List UInt8), (mapGoD f n l).length ≤ 4 * n
  | 0, l => by simp [mapGoD]
  | n + 1, l => by
    rw [mapGoD]
    split
    · simp
    · rw [List.length_append]
      have h1 := map_len4 f n (l.drop (decodeL l).2)
      have h2 := (encodeRuneZ_length (f (decodeL l).1)).2
      split
      · have : (encodeRune (f (decodeL l).1)).length ≤ 4 := by simpa [encodeRune] using h2
        omega
      · simp; omega
theorem lower_len4 (l : List UInt8) : (toLowerD l).length ≤ 4 * l.length := map_len4 _ _ _
theorem lowerB_small' (c : UInt8) (h : c.toNat < 128) : smallI (lowerB c).toNat = plcI c.toNat := by
  have := lowerB_small ⟨c.toNat, c.toNat_lt⟩
  simp only [UInt8.ofNat_toNat] at this
  rcases this with h' | h'
  · exact h'
  · omega
theorem smallI_lt {c : Int} (h : smallI c = true) : c < 128 := by simp [smallI] at h; omega
theorem plcI_lt {c : Int} (h : plcI c = true) : c < 128 := by simp [plcI, smallI, capI] at h; omega

/-- THE TWO TESTS OF A PLACED WORD ARE ONE. -/
theorem placed_eq (s : ByteArray) : (isWord ⟨(toLowerD s.data.toList).toArray⟩ && decide (s.size = (toLowerD s.data.toList).length)) = isPlc s := by
  have hsz : ∀ l : List UInt8, (ByteArray.mk l.toArray).size = l.length := fun l => by simp [ByteArray.size]
  have hs : s.size = s.data.toList.length := by simp
  unfold isWord isPlc
  rw [hsz, hs]
  show (smallAll (toLowerD s.data.toList) && _ && _) = _
  generalize s.data.toList = l
  by_cases ha : ∀ b ∈ l, b.toNat < 128
  · rw [toLowerD_ascii l ha]
    unfold toLowerA
    rw [List.length_map]
    have : smallAll (l.map lowerB) = plcAll l := by
      unfold smallAll plcAll
      rw [List.all_map, Bool.eq_iff_iff, List.all_eq_true, List.all_eq_true]
      constructor
      · intro h b hb
        rw [← lowerB_small' b (ha b hb)]; exact h b hb
      · intro h b hb
        show smallI (lowerB b).toNat = true
        rw [lowerB_small' b (ha b hb)]; exact h b hb
    rw [this]
    simp
  · have hr : plcAll l = false := by
      rw [Bool.eq_false_iff]
      intro h
      refine ha fun b hb => ?_
      have := plcI_lt (List.all_eq_true.1 h b hb)
      omega
    rw [hr, Bool.false_and, Bool.eq_false_iff]
    intro h
    simp only [Bool.and_eq_true, decide_eq_true_eq] at h
    obtain ⟨⟨h1, _⟩, h3⟩ := h
    have hall : ∀ b ∈ toLowerD l, b.toNat < 128 := fun b hb => by
      have := smallI_lt (List.all_eq_true.1 h1 b hb)
      omega
    exact ha ((lower_len l.length l (Nat.le_refl _) hall).2 h3.symm)
end Go.Proofs.YtenfdjnmkmeaiaaDoor
