/- Derivations, plainly: the affix with a name, the word that affixes lead to, what a derivation of a grammar is. No program is walked. -/
import Derived.Test.YtgefgdkejenhnaaDoorVg
import Derived.Test.YtgefgdkejenhnaaDoorGb
import Derived.Test.YtgefgdkejenhnaaDoorGv
namespace Go.Proofs.YtgefgdkejenhnaaDoor
open Go.RowKit
/-- The affix with a name; an empty one if there is none. -/
def affOf (l : List AffD) (n : ByteArray) : AffD := (l.find? (fun a => decide (a.name = n))).getD nilA
theorem affOf_at {l : List AffD} {n : ByteArray} {j : Nat} (hj : j < l.length) (h : l[j].name = n) (h2 : ∀ i (hi : i < j), l[i].name ≠ n) : affOf l n = l[j] := by
  have : l.find? (fun a => decide (a.name = n)) = some l[j] := List.find?_eq_some_iff_getElem.2 ⟨by simp [h], j, hj, rfl, fun i hi => by simpa using h2 i hi⟩
  rw [affOf, this]; rfl
theorem affOf_none {l : List AffD} {n : ByteArray} (h : ∀ i (hi : i < l.length), l[i].name ≠ n) : affOf l n = nilA := by
  have : l.find? (fun a => decide (a.name = n)) = none := List.find?_eq_none.2 fun x hx => by
    obtain ⟨i, hi, rfl⟩ := List.getElem_of_mem hx
    simpa using h i hi
  rw [affOf, this]; rfl
theorem hasB_at {l : List AffD} {n : ByteArray} (h : hasB l n = true) : ∃ j, ∃ hj : j < l.length, l[j].name = n ∧ (∀ i (hi : i < j), l[i].name ≠ n) ∧ fndI l n = j ∧ affOf l n = l[j] := by
  have hn := hasB_yes h
  unfold fndI at hn
  split at hn
  · rename_i k hk
    have hk' := hk
    rw [List.findIdx?_eq_some_iff_getElem] at hk
    obtain ⟨h1, h2, h3⟩ := hk
    have a : l[k].name = n := by simpa using h2
    have b : ∀ i (hi : i < k), l[i].name ≠ n := fun i hi => by simpa using h3 i hi
    exact ⟨k, h1, a, b, fnd_hit h1 a b, affOf_at h1 a b⟩
  · omega
theorem affOf_ok {l : List AffD} {n : ByteArray} (ha : AffsOk l) (h : hasB l n = true) : affB (affOf l n) = true := by
  obtain ⟨j, hj, -, -, -, e⟩ := hasB_at h
  rw [e]; exact (ha j hj).1
/-- The word that affixes make of a word, one after the other, and a code. -/
noncomputable def wordV (l : List AffD) : ByteArray → List ByteArray → ByteArray × Int
  | w, [] => (w, 0)
  | w, n :: r => if (apV (affOf l n) w).2 = 0 then wordV l (apV (affOf l n) w).1 r else (⟨#[]⟩, (apV (affOf l n) w).2)
theorem apV_zero {x : AffD} {w : ByteArray} (h : (apV x w).2 = 0) : isLong (apV x w).1 = true := by
  cases h1 : matB x w
  · rw [apV_no h1] at h; simp at h
  · cases h2 : isLong (outB x w)
    · rw [apV_far h1 h2] at h; simp at h
    · rw [apV_yes h1 h2]; exact h2
theorem apV_code (x : AffD) (w : ByteArray) : 0 ≤ (apV x w).2 ∧ (apV x w).2 ≤ 3 := by
  cases h1 : matB x w
  · rw [apV_no h1]; simp
  · cases h2 : isLong (outB x w)
    · rw [apV_far h1 h2]; simp
    · rw [apV_yes h1 h2]; simp
theorem wordV_long (l : List AffD) : ∀ (ns : List ByteArray) (w : ByteArray), isLong w = true → (wordV l w ns).2 = 0 → isLong (wordV l w ns).1 = true
  | [], w, h, _ => h
  | n :: r, w, h, h0 => by
    rw [wordV] at h0 ⊢
    split
    · rename_i hc
      rw [if_pos hc] at h0
      exact wordV_long l r _ (apV_zero hc) h0
    · rename_i hc
      rw [if_neg hc] at h0
      exact absurd h0 hc
/-- How far the word has come behind k affixes. -/
def WordAt (l : List AffD) (w : ByteArray) (ns : List ByteArray) (k : Nat) (cur : ByteArray) : Prop := wordV l w ns = wordV l cur (ns.drop k) ∧ isLong cur = true
theorem WordAt.start {l w ns} (h : isLong w = true) : WordAt l w ns 0 w := ⟨by simp, h⟩
theorem WordAt.next {l w} {ns : List ByteArray} {k cur} (h : WordAt l w ns k cur) (hk : k < ns.length) (h0 : (apV (affOf l ns[k]) cur).2 = 0) : WordAt l w ns (k + 1) (apV (affOf l ns[k]) cur).1 := by
  refine ⟨?_, apV_zero h0⟩
  rw [h.1, List.drop_eq_getElem_cons hk, wordV, if_pos h0]
theorem WordAt.fail {l w} {ns : List ByteArray} {k cur} (h : WordAt l w ns k cur) (hk : k < ns.length) (h0 : ¬ (apV (affOf l ns[k]) cur).2 = 0) : wordV l w ns = (⟨#[]⟩, (apV (affOf l ns[k]) cur).2) := by
  rw [h.1, List.drop_eq_getElem_cons hk, wordV, if_neg h0]
theorem WordAt.done {l w} {ns : List ByteArray} {k cur} (h : WordAt l w ns k cur) (hk : ns.length ≤ k) : wordV l w ns = (cur, 0) := by
  rw [h.1, List.drop_eq_nil_of_le hk, wordV]
/-- Whether a list has a string. -/
def inB (l : List ByteArray) (s : ByteArray) : Bool := l.any fun x => decide (x = s)
theorem inB_yes {l : List ByteArray} {s : ByteArray} {j : Nat} (hj : j < l.length) (h : l[j] = s) : inB l s = true := List.any_eq_true.2 ⟨l[j], List.getElem_mem hj, by simpa using h⟩
theorem inB_no {l : List ByteArray} {s : ByteArray} (h : ∀ i (hi : i < l.length), l[i] ≠ s) : inB l s = false := by
  rw [inB, List.any_eq_false]
  intro y hy
  obtain ⟨i, hi, rfl⟩ := List.getElem_of_mem hy
  simpa using h i hi
theorem inB_mem {l : List ByteArray} {s : ByteArray} : inB l s = true ↔ s ∈ l := by
  rw [inB, List.any_eq_true]
  constructor
  · rintro ⟨x, hx, h⟩
    obtain rfl : x = s := by simpa using h
    exact hx
  · exact fun h => ⟨s, h, by simp⟩
/-- The index of the first string that equals s; -1: none. -/
def idxI (l : List ByteArray) (s : ByteArray) : Int := match l.findIdx? (fun x => decide (x = s)) with
  | some i => (i : Int)
  | none => -1
theorem idx_hit {l : List ByteArray} {n : ByteArray} {j : Nat} (hj : j < l.length) (h : l[j] = n) (h2 : ∀ i (hi : i < j), l[i] ≠ n) : idxI l n = j := by
  have : l.findIdx? (fun a => decide (a = n)) = some j := List.findIdx?_eq_some_iff_getElem.2 ⟨hj, by simp [h], fun i hi => by simpa using h2 i hi⟩
  rw [idxI, this]
theorem idx_none {l : List ByteArray} {n : ByteArray} (h : ∀ i (hi : i < l.length), l[i] ≠ n) : idxI l n = -1 := by
  have : l.findIdx? (fun a => decide (a = n)) = none := List.findIdx?_eq_none_iff.2 fun x hx => by
    obtain ⟨i, hi, rfl⟩ := List.getElem_of_mem hx
    simpa using h i hi
  rw [idxI, this]
theorem idx_in {l : List ByteArray} {n : ByteArray} : decide (0 ≤ idxI l n) = inB l n := by
  cases h : inB l n
  · rw [decide_eq_false_iff_not, idx_none]
    · omega
    · intro i hi e
      rw [inB_yes hi e] at h; cases h
  · rw [decide_eq_true_iff]
    unfold idxI
    split
    · omega
    · rename_i hn
      obtain ⟨x, hx, hp⟩ := List.any_eq_true.1 h
      rw [List.findIdx?_eq_none_iff] at hn
      rw [hn x hx] at hp; cases hp
/-- The first one of its kind. -/
theorem idx_first {l : List ByteArray} {k : Nat} (hk : k < l.length) : (idxI l l[k] = k) ↔ inB (l.take k) l[k] = false := by
  constructor
  · intro h
    refine inB_no fun i hi e => ?_
    unfold idxI at h
    split at h
    · rename_i j hj
      rw [List.findIdx?_eq_some_iff_getElem] at hj
      obtain ⟨h1, h2, h3⟩ := hj
      have : j = k := by omega
      subst this
      simp at hi
      exact h3 i (by omega) (by simpa using e)
    · omega
  · intro h
    refine idx_hit hk rfl fun i hi e => ?_
    have : inB (l.take k) l[k] = true := inB_yes (j := i) (by simp; omega) (by simpa using e)
    rw [this] at h; cases h
/-- A derivation. -/
structure DerD where
  stem : ByteArray
  affixes : List ByteArray
deriving DecidableEq
/-- The index of the first stem with a word; -1: none. -/
def stmI (l : List StemD) (n : ByteArray) : Int := match l.findIdx? (fun a => decide (a.word = n)) with
  | some i => (i : Int)
  | none => -1
theorem stm_hit {l : List StemD} {n : ByteArray} {j : Nat} (hj : j < l.length) (h : l[j].word = n) (h2 : ∀ i (hi : i < j), l[i].word ≠ n) : stmI l n = j := by
  have : l.findIdx? (fun a => decide (a.word = n)) = some j := List.findIdx?_eq_some_iff_getElem.2 ⟨hj, by simp [h], fun i hi => by simpa using h2 i hi⟩
  rw [stmI, this]
theorem stm_none {l : List StemD} {n : ByteArray} (h : ∀ i (hi : i < l.length), l[i].word ≠ n) : stmI l n = -1 := by
  have : l.findIdx? (fun a => decide (a.word = n)) = none := List.findIdx?_eq_none_iff.2 fun x hx => by
    obtain ⟨i, hi, rfl⟩ := List.getElem_of_mem hx
    simpa using h i hi
  rw [stmI, this]
theorem stm_cases (l : List StemD) (n : ByteArray) : stmI l n = -1 ∧ (∀ i (hi : i < l.length), l[i].word ≠ n) ∨ ∃ j, ∃ hj : j < l.length, stmI l n = j ∧ l[j].word = n ∧ ∀ i (hi : i < j), l[i].word ≠ n := by
  cases h : l.findIdx? (fun a => decide (a.word = n)) with
  | none =>
    refine .inl ⟨by rw [stmI, h], fun i hi e => ?_⟩
    have := List.findIdx?_eq_none_iff.1 h l[i] (List.getElem_mem hi)
    rw [e] at this; simp at this
  | some j =>
    obtain ⟨h1, h2, h3⟩ := List.findIdx?_eq_some_iff_getElem.1 h
    exact .inr ⟨j, h1, by rw [stmI, h], by simpa using h2, fun i hi => by simpa using h3 i hi⟩
/-- The first k affixes of a derivation are among some, none of them twice. -/
def DerTo (us l : List ByteArray) (k : Nat) : Prop := ∀ i, i < k → (h : i < l.length) → inB us l[i] = true ∧ inB (l.take i) l[i] = false
theorem DerTo.zero {us l} : DerTo us l 0 := fun i h => by omega
theorem DerTo.succ {us l k} (h : DerTo us l k) (hk : k < l.length) (h1 : inB us l[k] = true) (h2 : inB (l.take k) l[k] = false) : DerTo us l (k + 1) := fun i hi hl => by
  rcases Nat.lt_succ_iff_lt_or_eq.1 hi with h3 | rfl
  · exact h i h3 hl
  · exact ⟨h1, h2⟩
def DerOk (g : GraD) (d : DerD) : Prop := ∃ j, ∃ hj : j < g.stems.length, stmI g.stems d.stem = j ∧ d.affixes.length ≤ 2 ∧ DerTo g.stems[j].uses d.affixes d.affixes.length
open Classical in
noncomputable def derB (g : GraD) (d : DerD) : Bool := decide (DerOk g d)
open Classical in
theorem derB_yes {g : GraD} {d : DerD} (h : DerOk g d) : derB g d = true := by unfold derB; exact decide_eq_true h
open Classical in
theorem derB_no {g : GraD} {d : DerD} (h : ¬ DerOk g d) : derB g d = false := by unfold derB; exact decide_eq_false h
open Classical in
theorem derB_iff {g : GraD} {d : DerD} : derB g d = true ↔ DerOk g d := by unfold derB; simp
open Classical in
theorem graB_iff {g : GraD} : graB g = true ↔ GraOk g := by unfold graB; simp
/-- What WordOf comes to. -/
noncomputable def woV (g : GraD) (d : DerD) : ByteArray × Int := if graB g then (if derB g d then wordV g.affixes d.stem d.affixes else (⟨#[]⟩, 6)) else (⟨#[]⟩, 1)
theorem GraOk.stem {g : GraD} (h : GraOk g) {j : Nat} (hj : j < g.stems.length) : isLong g.stems[j].word = true ∧ ∀ n ∈ g.stems[j].uses, hasB g.affixes n = true := by
  have := h.2.1.1 j hj
  unfold stemB at this
  simp only [Bool.and_eq_true] at this
  exact ⟨this.2, fun n hn => List.all_eq_true.1 this.1.1 n hn⟩
theorem DerOk.names {g : GraD} {d : DerD} (hg : GraOk g) (h : DerOk g d) : isLong d.stem = true ∧ ∀ n ∈ d.affixes, hasB g.affixes n = true := by
  obtain ⟨j, hj, h1, h2, h3⟩ := h
  rcases stm_cases g.stems d.stem with ⟨e, _⟩ | ⟨k, hk, e1, e2, _⟩
  · omega
  · have : k = j := by omega
    subst this
    refine ⟨by rw [← e2]; exact (hg.stem hj).1, fun n hn => ?_⟩
    obtain ⟨i, hi, rfl⟩ := List.getElem_of_mem hn
    exact (hg.stem hj).2 _ (inB_mem.1 (h3 i hi hi).1)
end Go.Proofs.YtgefgdkejenhnaaDoor
