/- ReadLexicon of both sides; linesOf. Conditions: a text of at most 2^20 bytes; MaxLen's cell. -/
import Derived.Test.YtgefgdkejenhnaaDoorLa
import Derived.Test.YtgefgdkejenhnaaDoorS
import Derived.Laws.ResultCell
import Derived.Laws.Rows
namespace Go.Proofs.YtgefgdkejenhnaaDoor
open Go.RowKit
/-- A result in a cell and one in a slot. -/
theorem results_cell_row2 {P : Program} {fn : Func} {p u : Tmp} {ty : TypeId} (h : fn.results = #[.cell p ty, .tmp u]) (tmps : Array Value) (w : World) (g : Nat) (t : TypeId) (cs : Array Value) (fr : Nat × Nat) (d : TypeDesc)
    (hp : tmps.getD p undef = .pointer (some ⟨g, 0, none⟩)) (hg : w.heap[g]? = some (.cells cs t fr))
    (hu : P.underlying ty = some d) (hd : (match d with | .struct _ | .array _ _ => true | _ => false) = true) (hi : (P.info? ty).map (·.size) = some cs.size) :
    (results fn tmps).run P w = .ok (.tuple #[.agg cs, tmps.getD u undef]) w := by
  rw [results_cell_tmp h, hp]
  have hl := run_loadVar_row w g t ty cs fr d hg hu hd hi
  simp [asAddr, hl, Result.andThen]
theorem splitC_last (c : UInt8) : ∀ l : List UInt8, (splitC c l).getLast? = some [] → l = [] ∨ l.getLast? = some c
  | [], _ => .inl rfl
  | b :: l, h => by
    right
    rw [splitC] at h
    have hne := splitC_ne c l
    have key : l = [] ∨ l.getLast? = some c → (b = c ∨ l ≠ []) → (b :: l).getLast? = some c := by
      rintro (rfl | h1) h2
      · rcases h2 with rfl | h2
        · rfl
        · exact absurd rfl h2
      · cases l with
        | nil => simp at h1
        | cons x l => rw [List.getLast?_cons_cons]; exact h1
    by_cases hb : b = c
    · rw [if_pos hb] at h
      have h2 : (splitC c l).getLast? = some [] := by
        cases hs : splitC c l with
        | nil => exact absurd hs hne
        | cons p ps => rw [hs, List.getLast?_cons_cons] at h; exact h
      exact key (splitC_last c l h2) (.inl hb)
    · rw [if_neg hb] at h
      cases hs : splitC c l with
      | nil => exact absurd hs hne
      | cons p ps =>
        rw [hs] at h
        cases ps with
        | nil => simp at h
        | cons q ps =>
          simp only [List.getLast?_cons_cons] at h
          have h2 : (splitC c l).getLast? = some [] := by rw [hs, List.getLast?_cons_cons]; exact h
          refine key (splitC_last c l h2) (.inr ?_)
          rintro rfl
          simp [splitC] at hs
theorem splitW_snoc (c : UInt8) (s : ByteArray) (h : finP ⟨#[c]⟩ s = true) : splitW c s = splitW c (s.extract 0 (s.size - 1)) ++ [ByteArray.empty] := by
  obtain ⟨h1, h2⟩ := finP_iff.1 h
  have h1' : 1 ≤ s.size := h1
  have h2' : (s.extract (s.size - 1) s.size).data.toList = [c] := by
    have : s.extract (s.size - 1) s.size = (⟨#[c]⟩ : ByteArray) := h2
    rw [this]
  rw [ext_drop] at h2'
  have e : s.data.toList = (s.extract 0 (s.size - 1)).data.toList ++ [c] := by
    rw [ext_take, ← h2', List.take_append_drop]
  unfold splitW
  rw [e, splitC_snoc, List.map_append]
  rfl
theorem splitW_last {c : UInt8} {s : ByteArray} (h : finP ⟨#[c]⟩ s = false) (hs : 0 < s.size) : (splitW c s).getLast? ≠ some ByteArray.empty := by
  intro hl
  unfold splitW at hl
  rw [List.getLast?_map] at hl
  obtain ⟨p, hp, he⟩ := Option.map_eq_some_iff.1 hl
  have hp0 : p = [] := by
    have := congrArg (fun b : ByteArray => b.data.toList) he
    simpa [baL] using this
  rw [hp0] at hp
  rcases splitC_last c _ hp with h0 | h0
  · have := ba_sz s; rw [h0] at this; simp at this; omega
  · have hf : finP ⟨#[c]⟩ s = true := by
      unfold finP Lib.hasSuffix
      rw [List.isSuffixOf_iff_suffix]
      obtain ⟨t, ht⟩ := List.getLast?_eq_some_iff.1 h0
      exact ⟨t, ht.symm⟩
    rw [h] at hf; cases hf
/-- ReadLexicon: the words, and whether the text is a lexicon's. -/
def rlB (s : ByteArray) : Bool := decide ((splitW 10 s).getLast? = some ByteArray.empty) && lexB (splitW 10 s).dropLast
def rlW (s : ByteArray) : List ByteArray := if rlB s then (splitW 10 s).dropLast else []
theorem rlW_len (s : ByteArray) (h : s.size ≤ 1048576) : (rlW s).length ≤ 1048577 := by
  unfold rlW
  split
  · rw [List.length_dropLast]; have := splitW_len 10 s; omega
  · simp
theorem rl_no {s : ByteArray} (h : rlB s = false) : rlW s = [] := by simp [rlW, h]
theorem rl_yes {s : ByteArray} (h : rlB s = true) : rlW s = (splitW 10 s).dropLast := by simp [rlW, h]
theorem rlB_of {s : ByteArray} {ps : List ByteArray} {z : ByteArray} (h : splitW 10 s = ps ++ [z]) : rlB s = (decide (z = ByteArray.empty) && lexB ps) ∧ (splitW 10 s).dropLast = ps := by
  unfold rlB
  rw [h, List.getLast?_concat, List.dropLast_concat]
  simp
theorem split_parts (c : UInt8) (s : ByteArray) : ∃ ps z, splitW c s = ps ++ [z] := by
  have h := splitW_ne c s
  have hne : splitW c s ≠ [] := by intro e; rw [e] at h; simp at h
  exact ⟨_, _, (List.dropLast_concat_getLast hne).symm⟩
theorem StrsW.init {w : World} {lo hi : Nat} {a : Option Addr} {c : Nat} {ps : List ByteArray} {z : ByteArray} (h : StrsW w lo hi (.slice a (ps.length + 1) c) (ps ++ [z])) : StrsW w lo hi (.slice a ps.length c) ps := by
  obtain ⟨⟨h1, a', c', e, h2, h3, h4⟩, h5⟩ := h
  rw [List.length_append, List.length_singleton] at *
  injection e with e1 e2 e3
  subst e1
  subst e3
  refine ⟨⟨by simp, a, c, rfl, by omega, h3, ?_⟩, fun s hs => h5 s (by simp [hs])⟩
  rcases h4 with h4 | ⟨g, off, cur, rfl, hg, hg2, hh, hs, ht⟩
  · omega
  · refine .inr ⟨g, off, cur, rfl, hg, hg2, hh, by omega, ?_⟩
    have := congrArg (List.take ps.length) ht
    rw [List.take_take, Nat.min_eq_left (by omega), List.map_append, List.take_append_of_le_length (by simp), List.take_of_length_le (l := List.map Value.string ps) (by simp)] at this
    rw [Nat.mul_one]
    exact this
theorem strs_nilL (w : World) (lo hi : Nat) : StrsW w lo hi (.slice none 0 0) [] := ⟨⟨rfl, none, 0, rfl, Nat.le_refl _, by unfold maxLen; omega, .inl rfl⟩, by simp⟩
attribute [local irreducible] Calls
def bodyS (s : ByteArray) : ByteArray := if finP ⟨#[10]⟩ s then s.extract 0 (s.size - 1) else s
def linesL (s : ByteArray) : List ByteArray := if s.size = 0 then [] else splitW 10 (bodyS s)
def linesB (s : ByteArray) : Bool := if s.size = 0 then true else finP ⟨#[10]⟩ s
theorem lines_rl (s : ByteArray) : (linesB s && lexB (linesL s)) = rlB s ∧ (linesB s = true → linesL s = (splitW 10 s).dropLast) := by
  unfold linesB linesL bodyS rlB
  by_cases h0 : s.size = 0
  · have e : splitW 10 s = [ByteArray.empty] := by
      rw [size_zero h0]; rfl
    rw [if_pos h0, if_pos h0, e]
    exact ⟨by simp, fun _ => by simp⟩
  · rw [if_neg h0, if_neg h0]
    cases hf : finP ⟨#[10]⟩ s
    · refine ⟨?_, fun h => by simp at h⟩
      rw [decide_eq_false (splitW_last hf (by omega))]; simp
    · rw [splitW_snoc 10 s hf]
      simp
theorem trimS (s : ByteArray) : (⟨(Lib.trimSuffix s.data.toList [10]).toArray⟩ : ByteArray) = bodyS s := by
  unfold bodyS
  apply ba_inj
  show Lib.trimSuffix s.data.toList [10] = _
  unfold Lib.trimSuffix
  have e : finP ⟨#[10]⟩ s = Lib.hasSuffix s.data.toList [10] := rfl
  rw [e]
  split
  · rw [ext_take, ba_sz]; rfl
  · rfl
set_option maxHeartbeats 1000000 in
theorem linesOf_any (s : ByteArray) (w : World) (hs : s.size ≤ 1048576) (hm : MaxL w) :
    Calls Tryd.prog 63 #[.string s] w fun e w' => ∃ v', e = .returned (.tuple #[v', .bool (linesB s)]) ∧ StrsW w' w.heap.size w'.heap.size v' (linesL s) ∧ Below w.heap.size w w' := by
  by_cases h0 : s.size = 0
  · have e1 : linesB s = true := by simp [linesB, h0]
    have e2 : linesL s = [] := by simp [linesL, h0]
    have H1 := Lib.hid e1
    have H2 := Lib.hid e2
    clear e1 e2
    have hz := isEmpty_true h0
    have hz2 : s.toList = [] := by simpa using hz
    clear h0
    go_enter Tryd.func63, Tryd.ntmps63
    go_wp2
    go_ret2
    refine ⟨.slice (some ⟨w.heap.size, 0, none⟩) 0 0, by rw [H1.out]; rfl, ?_, (Below.refl _ _).alloc (Nat.le_refl _) _⟩
    rw [H2.out]
    exact ⟨⟨rfl, _, 0, rfl, Nat.le_refl _, by unfold maxLen; omega, .inl rfl⟩, by simp⟩
  · have e1 : finP ⟨#[10]⟩ s = linesB s := by simp [linesB, h0]
    have e2 : splitW 10 (bodyS s) = linesL s := by simp [linesL, h0]
    have H1 := Lib.hid e1
    have H2 := Lib.hid e2
    have HT := Lib.hid (trimS s)
    have Hsz : Hid ((bodyS s).size ≤ 1048576) := by
      apply Lib.hid
      unfold bodyS
      split
      · rw [ByteArray.size_extract]; omega
      · exact hs
    have hz := isEmpty_false (s := s) (by omega)
    have hz2 : ¬ s.toList = [] := by simpa using hz
    have Hz2 := Lib.hid hz2
    clear e1 e2 h0 hz2
    go_enter Tryd.func63, Tryd.ntmps63
    go_wp2_with fail
    refine (Tryd.strings_CutSuffix s ⟨#[10]⟩ _ (by omega)).mono ?_
    rw [show (⟨(Lib.trimSuffix s.data.toList (⟨#[10]⟩ : ByteArray).data.toList).toArray⟩ : ByteArray) = _ from HT.out, show Lib.hasSuffix s.data.toList (⟨#[10]⟩ : ByteArray).data.toList = linesB s from H1.out]
    rintro e w1 ⟨rfl, rfl⟩
    go_wp2_with fail
    refine (split_any _ 10 _ Hsz.out hm).mono ?_
    rw [H2.out]
    rintro e w2 ⟨v2, rfl, hv2, hb2⟩
    go_wp2
    go_ret2
    exact ⟨_, rfl, hv2, hb2⟩
end Go.Proofs.YtgefgdkejenhnaaDoor
