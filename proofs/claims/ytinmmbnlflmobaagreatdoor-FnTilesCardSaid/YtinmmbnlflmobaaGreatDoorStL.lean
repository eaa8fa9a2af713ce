/- The plain law of StandardTiles: the two texts are of tile sets, the empty one of none. No program in sight. -/
import Derived.Test.YtinmmbnlflmobaaGreatDoorRp
namespace Go.Proofs.YtinmmbnlflmobaaGreatDoor
open Go.RowKit
/-- Small numbers' digits. -/
def dig2 (n : Int) : List UInt8 := if n < 10 then [UInt8.ofNat (48 + n.toNat)] else [UInt8.ofNat (48 + n.toNat / 10), UInt8.ofNat (48 + n.toNat % 10)]
theorem itoa_2 {n : Int} (h0 : 0 ≤ n) (h1 : n < 100) : Lib.itoa n = dig2 n := by
  unfold Lib.itoa dig2
  rw [if_neg (by omega), Lib.decDigits]
  by_cases h : n < 10
  · rw [dif_pos (by omega), if_pos h]
  · rw [dif_neg (by omega), if_neg h, Lib.decDigits, dif_pos (by omega)]; rfl
def tileS (x : TileD) (i : Nat) : List UInt8 := x.letters.data.toList.getD i 0 :: (dig2 (x.values.getD i 0) ++ 120 :: dig2 (x.counts.getD i 0))
def textS (x : TileD) : Nat → List UInt8
  | 0 => []
  | j + 1 => textS x j ++ ((if j = 0 then [] else [32]) ++ tileS x j)
theorem small_getD {l : List Int} (h : ∀ v ∈ l, 0 ≤ v ∧ v < 100) (i : Nat) : 0 ≤ l.getD i 0 ∧ l.getD i 0 < 100 := by
  rw [List.getD_eq_getElem?_getD]
  cases hi : l[i]? with
  | none => simp
  | some v => exact h v (List.mem_of_getElem? hi)
theorem textS_is {x : TileD} (hv : ∀ v ∈ x.values, 0 ≤ v ∧ v < 100) (hc : ∀ v ∈ x.counts, 0 ≤ v ∧ v < 100) : ∀ j, textTo x j = textS x j
  | 0 => rfl
  | j + 1 => by
    rw [textTo, textS, textS_is hv hc j]
    unfold tileW tileS
    rw [itoa_2 (small_getD hv j).1 (small_getD hv j).2, itoa_2 (small_getD hc j).1 (small_getD hc j).2]
/-- Whether a tile set is valid, by computation. -/
def tilCk (x : TileD) : Bool :=
  decide (1 ≤ x.letters.size) && decide (x.letters.size ≤ 26) && decide (x.values.length = x.letters.size) && decide (x.counts.length = x.letters.size) && decide (0 ≤ x.blanks) && decide (x.blanks ≤ 4) &&
  (x.letters.data.toList.all fun c => smallI c.toNat) && ((List.range (x.letters.size - 1)).all fun i => decide ((x.letters.data.toList.getD i 0).toNat < (x.letters.data.toList.getD (i + 1) 0).toNat)) &&
  (x.values.all fun v => decide (0 ≤ v) && decide (v ≤ 20)) && (x.counts.all fun v => decide (1 ≤ v) && decide (v ≤ 20)) && decide (x.blanks + x.counts.sum ≤ 120)
theorem getD_is (s : ByteArray) (i : Nat) (h : i < s.size) : s.data.toList.getD i 0 = s[i] := by
  rw [List.getD_eq_getElem?_getD, List.getElem?_eq_getElem (by simpa using h)]; rfl
theorem tilCk_P {x : TileD} (h : tilCk x = true) : TilP x := by
  simp only [tilCk, Bool.and_eq_true, decide_eq_true_eq, List.all_eq_true] at h
  obtain ⟨⟨⟨⟨⟨⟨⟨⟨⟨⟨h1, h2⟩, h3⟩, h4⟩, h5⟩, h6⟩, h7⟩, h8⟩, h9⟩, h10⟩, h11⟩ := h
  refine ⟨h1, h2, h3, h4, h5, h6, fun i hi => ?_, fun i hi => ?_, fun i hi => h9 _ (List.getElem_mem hi), fun i hi => h10 _ (List.getElem_mem hi), h11⟩
  · have := h7 (x.letters.data.toList[i]'(by simpa using hi)) (List.getElem_mem _)
    exact this
  · have := h8 i (List.mem_range.2 (by omega))
    rwa [getD_is _ _ (by omega), getD_is _ _ hi] at this
def engD : TileD := { letters := ⟨#[97, 98, 99, 100, 101, 102, 103, 104, 105, 106, 107, 108, 109, 110, 111, 112, 113, 114, 115, 116, 117, 118, 119, 120, 121, 122]⟩, values := [1, 3, 3, 2, 1, 4, 2, 4, 1, 8, 5, 1, 3, 1, 1, 3, 10, 1, 1, 1, 1, 4, 4, 8, 4, 10], counts := [9, 2, 2, 4, 12, 2, 3, 2, 9, 1, 1, 4, 2, 6, 8, 2, 1, 6, 4, 6, 4, 2, 2, 1, 2, 1], blanks := 2 }
def smaD : TileD := { letters := ⟨#[97, 101, 110, 114, 115, 116]⟩, values := [1, 1, 2, 2, 1, 2], counts := [3, 3, 2, 2, 2, 2], blanks := 1 }
def engB : ByteArray := ⟨#[97, 49, 120, 57, 32, 98, 51, 120, 50, 32, 99, 51, 120, 50, 32, 100, 50, 120, 52, 32, 101, 49, 120, 49, 50, 32, 102, 52, 120, 50, 32, 103, 50, 120, 51, 32, 104, 52, 120, 50, 32, 105, 49, 120, 57, 32, 106, 56, 120, 49, 32, 107, 53, 120, 49, 32, 108, 49, 120, 52, 32, 109, 51, 120, 50, 32, 110, 49, 120, 54, 32, 111, 49, 120, 56, 32, 112, 51, 120, 50, 32, 113, 49, 48, 120, 49, 32, 114, 49, 120, 54, 32, 115, 49, 120, 52, 32, 116, 49, 120, 54, 32, 117, 49, 120, 52, 32, 118, 52, 120, 50, 32, 119, 52, 120, 50, 32, 120, 56, 120, 49, 32, 121, 52, 120, 50, 32, 122, 49, 48, 120, 49, 32, 63, 120, 50]⟩
def smaB : ByteArray := ⟨#[97, 49, 120, 51, 32, 101, 49, 120, 51, 32, 110, 50, 120, 50, 32, 114, 50, 120, 50, 32, 115, 49, 120, 50, 32, 116, 50, 120, 50, 32, 63, 120, 49]⟩
theorem engD_ok : tilCk engD = true := by decide +kernel
theorem smaD_ok : tilCk smaD = true := by decide +kernel
theorem small_of {l : List Int} (h : (l.all fun v => decide (0 ≤ v) && decide (v < 100)) = true) : ∀ v ∈ l, 0 ≤ v ∧ v < 100 := by
  simpa only [List.all_eq_true, Bool.and_eq_true, decide_eq_true_eq] using h
theorem engD_text : textL engD = engB.data.toList := by
  unfold textL
  rw [textS_is (small_of (by decide +kernel)) (small_of (by decide +kernel)), if_pos (by decide), itoa_2 (by decide) (by decide)]
  decide +kernel
theorem smaD_text : textL smaD = smaB.data.toList := by
  unfold textL
  rw [textS_is (small_of (by decide +kernel)) (small_of (by decide +kernel)), if_pos (by decide), itoa_2 (by decide) (by decide)]
  decide +kernel
theorem read_eng : readT engB.data.toList = some engD := by rw [← engD_text]; exact readT_some (tilCk_P engD_ok)
theorem read_sma : readT smaB.data.toList = some smaD := by rw [← smaD_text]; exact readT_some (tilCk_P smaD_ok)
theorem read_nil : readT [] = none := by
  refine readT_none fun x H e => ?_
  have h1 := H.n1
  obtain ⟨n, hn⟩ : ∃ n, x.letters.size = n + 1 := ⟨x.letters.size - 1, by omega⟩
  unfold textL at e
  rw [hn, textTo] at e
  have := congrArg List.length e
  simp [tileW] at this
def engN : ByteArray := ⟨#[101, 110, 103, 108, 105, 115, 104]⟩
def smaN : ByteArray := ⟨#[115, 109, 97, 108, 108]⟩
/-- The text of a name. -/
def stT (s : ByteArray) : ByteArray := if s = engN then engB else if s = smaN then smaB else ⟨#[]⟩
theorem stT_eng : stT engN = engB := if_pos rfl
theorem stT_sma : stT smaN = smaB := by unfold stT; rw [if_neg (by decide), if_pos rfl]
theorem stT_no {s : ByteArray} (h : s ≠ engN) (h2 : s ≠ smaN) : stT s = ⟨#[]⟩ := by unfold stT; rw [if_neg h, if_neg h2]
end Go.Proofs.YtinmmbnlflmobaaGreatDoor
