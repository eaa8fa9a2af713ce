/- ReadLexicon of both sides; linesOf. Conditions: a text of at most 2^20 bytes; MaxLen's cell. -/
import Derived.Test.YtlompohfibcjfaaDoorLa
import Derived.Test.YtlompohfibcjfaaDoorS
import Derived.Laws.ResultCell
import Derived.Laws.Rows
namespace Go.Proofs.YtlompohfibcjfaaDoor
open Go.RowKit
/-- A result in a cell and one in a slot. -/
theorem results_cell_row2 {P : Program} {fn : Func} {p u : Tmp} {ty : TypeId} (h : fn.results = #[.cell p ty, .tmp u]) (tmps : Array Value) (w : World) (g : Nat) (t : TypeId) (cs : Array Value) (fr : Nat × Nat) (d : TypeDesc)
    (hp : tmps.getD p undef = .pointer (some ⟨g, 0, none⟩)) (hg : w.heap[g]? = some (.cells cs t fr))
    (hu : P.underlying ty = some d) (hd : (match d with | .struct _ | .array _ _ => true | _ => false) = true) (hi : (P.info? ty).map (·.size) = some cs.size) :
    (results fn tmps).run P w = .ok (.tuple #[.agg cs, tmps.getD u undef]) w := by
  rw [results_cell_tmp h, hp]
  have hl := run_loadVar_row w g t ty cs fr d hg hu hd hi
  simp [asAddr, hl, Result.andThen]
theorem splitC_last (c : UInt8) : ∀ l : List UInt8, (splitC c l).getLast? = some [] → l = [] ∨ l.getLast? = some c
  | [], _ => .inl rfl
  | b :: l, h => by
    right
    rw [splitC] at h
    have hne := splitC_ne c l
    have key : l = [] ∨ l.getLast? = some c → (b = c ∨ l ≠ []) → (b :: l).getLast? = some c := by
      rintro (rfl | h1) h2
      · rcases h2 with rfl | h2
        · rfl
        · exact absurd rfl h2
      · cases l with
        | nil => simp at h1
        | cons x l => rw [List.getLast?_cons_cons]; exact h1
    by_cases hb : b = c
    · rw [if_pos hb] at h
      have h2 : (splitC c l).getLast? = some [] := by
        cases hs : splitC c l with
        | nil => exact absurd hs hne
        | cons p ps => rw [hs, List.getLast?_cons_cons] at h; exact h
      exact key (splitC_last c l h2) (.inl hb)
    · rw [if_neg hb] at h
      cases hs : splitC c l with
      | nil => exact absurd hs hne
      | cons p ps =>
        rw [hs] at h
        cases ps with
        | nil => simp at h
        | cons q ps =>
          simp only [List.getLast?_cons_cons] at h
          have h2 : (splitC c l).getLast? = some [] := by rw [hs, List.getLast?_cons_cons]; exact h
          refine key (splitC_last c l h2) (.inr ?_)
          rintro rfl
          simp [splitC] at hs
theorem splitW_snoc (c : UInt8) (s : ByteArray) (h : finP ⟨#[c]⟩ s = true) : splitW c s = splitW c (s.extract 0 (s.size - 1)) ++ [ByteArray.empty] := by
  obtain ⟨h1, h2⟩ := finP_iff.1 h
  have h1' : 1 ≤ s.size := h1
  have h2' : (s.extract (s.size - 1) s.size).data.toList = [c] := by
    have : s.extract (s.size - 1) s.size = (⟨#[c]⟩ : ByteArray) := h2
    rw [this]
  rw [ext_drop] at h2'
  have e : s.data.toList = (s.extract 0 (s.size - 1)).data.toList ++ [c] := by
    rw [ext_take, ← h2', List.take_append_drop]
  unfold splitW
  rw [e, splitC_snoc, List.map_append]
  rfl
theorem splitW_last {c : UInt8} {s : ByteArray} (h : finP ⟨#[c]⟩ s = false) (hs : 0 < s.size) : (splitW c s).getLast? ≠ some ByteArray.empty := by
  intro hl
  unfold splitW at hl
  rw [List.getLast?_map] at hl
  obtain ⟨p, hp, he⟩ := Option.map_eq_some_iff.1 hl
  have hp0 : p = [] := by
    have := congrArg (fun b : ByteArray => b.data.toList) he
    simpa [baL] using this
  rw [hp0] at hp
  rcases splitC_last c _ hp with h0 | h0
  · have := ba_sz s; rw [h0] at this; simp at this; omega
  · have hf : finP ⟨#[c]⟩ s = true := by
      unfold finP Lib.hasSuffix
      rw [List.isSuffixOf_iff_suffix]
      obtain ⟨t, ht⟩ := List.getLast?_eq_some_iff.1 h0
      exact ⟨t, ht.symm⟩
    rw [h] at hf; cases hf
/-- ReadLexicon: the words, and whether the text is a lexicon's. -/
def rlB (s : ByteArray) : Bool := decide ((splitW 10 s).getLast? = some ByteArray.empty) && lexB (splitW 10 s).dropLast
def rlW (s : ByteArray) : List ByteArray := if rlB s then (splitW 10 s).dropLast else []
theorem rlW_len (s : ByteArray) (h : s.size ≤ 1048576) : (rlW s).length ≤ 1048577 := by
  unfold rlW
  split
  · rw [List.length_dropLast]; have := splitW_len 10 s; omega
  · simp
theorem rl_no {s : ByteArray} (h : rlB s = false) : rlW s = [] := by simp [rlW, h]
theorem rl_yes {s : ByteArray} (h : rlB s = true) : rlW s = (splitW 10 s).dropLast := by simp [rlW, h]
theorem rlB_of {s : ByteArray} {ps : List ByteArray} {z : ByteArray} (h : splitW 10 s = ps ++ [z]) : rlB s = (decide (z = ByteArray.empty) && lexB ps) ∧ (splitW 10 s).dropLast = ps := by
  unfold rlB
  rw [h, List.getLast?_concat, List.dropLast_concat]
  simp
theorem split_parts (c : UInt8) (s : ByteArray) : ∃ ps z, splitW c s = ps ++ [z] := by
  have h := splitW_ne c s
  have hne : splitW c s ≠ [] := by intro e; rw [e] at h; simp at h
  exact ⟨_, _, (List.dropLast_concat_getLast hne).symm⟩
theorem StrsW.init {w : World} {lo hi : Nat} {a : Option Addr} {c : Nat} {ps : List ByteArray} {z : ByteArray} (h : StrsW w lo hi (.slice a (ps.length + 1) c) (ps ++ [z])) : StrsW w lo hi (.slice a ps.length c) ps := by
  obtain ⟨⟨h1, a', c', e, h2, h3, h4⟩, h5⟩ := h
  rw [List.length_append, List.length_singleton] at *
  injection e with e1 e2 e3
  subst e1
  subst e3
  refine ⟨⟨by simp, a, c, rfl, by omega, h3, ?_⟩, fun s hs => h5 s (by simp [hs])⟩
  rcases h4 with h4 | ⟨g, off, cur, rfl, hg, hg2, hh, hs, ht⟩
  · omega
  · refine .inr ⟨g, off, cur, rfl, hg, hg2, hh, by omega, ?_⟩
    have := congrArg (List.take ps.length) ht
    rw [List.take_take, Nat.min_eq_left (by omega), List.map_append, List.take_append_of_le_length (by simp), List.take_of_length_le (l := List.map Value.string ps) (by simp)] at this
    rw [Nat.mul_one]
    exact this
theorem strs_nilL (w : World) (lo hi : Nat) : StrsW w lo hi (.slice none 0 0) [] := ⟨⟨rfl, none, 0, rfl, Nat.le_refl _, by unfold maxLen; omega, .inl rfl⟩, by simp⟩
attribute [local irreducible] Calls
def bodyS (s : ByteArray) : ByteArray := if finP ⟨#[10]⟩ s then s.extract 0 (s.size - 1) else s
def linesL (s : ByteArray) : List ByteArray := if s.size = 0 then [] else splitW 10 (bodyS s)
def linesB (s : ByteArray) : Bool := if s.size = 0 then true else finP ⟨#[10]⟩ s
theorem lines_rl (s : ByteArray) : (linesB s && lexB (linesL s)) = rlB s ∧ (linesB s = true → linesL s = (splitW 10 s).dropLast) := by
  unfold linesB linesL bodyS rlB
  by_cases h0 : s.size = 0
  · have e : splitW 10 s = [ByteArray.empty] := by
      rw [size_zero h0]; rfl
    rw [if_pos h0, if_pos h0, e]
    exact ⟨by simp, fun _ => by simp⟩
  · rw [if_neg h0, if_neg h0]
    cases hf : finP ⟨#[10]⟩ s
    · refine ⟨?_, fun h => by simp at h⟩
      rw [decide_eq_false (splitW_last hf (by omega))]; simp
    · rw [splitW_snoc 10 s hf]
      simp
theorem trimS (s : ByteArray) : (⟨(Lib.trimSuffix s.data.toList [10]).toArray⟩ : ByteArray) = bodyS s := by
  unfold bodyS
  apply ba_inj
  show Lib.trimSuffix s.data.toList [10] = _
  unfold Lib.trimSuffix
  have e : finP ⟨#[10]⟩ s = Lib.hasSuffix s.data.toList [10] := rfl
  rw [e]
  split
  · rw [ext_take, ba_sz]; rfl
  · rfl
set_option maxHeartbeats 1000000 in
theorem linesOf_any (s : ByteArray) (w : World) (hs : s.size ≤ 1048576) (hm : MaxL w) :
    Calls Tryd.prog 11 #[.string s] w fun e w' => ∃ v', e = .returned (.tuple #[v', .bool (linesB s)]) ∧ StrsW w' w.heap.size w'.heap.size v' (linesL s) ∧ Below w.heap.size w w' := by
  by_cases h0 : s.size = 0
  · have e1 : linesB s = true := by simp [linesB, h0]
    have e2 : linesL s = [] := by simp [linesL, h0]
    have H1 := Lib.hid e1
    have H2 := Lib.hid e2
    clear e1 e2
    have hz := isEmpty_true h0
    have hz2 : s.toList = [] := by simpa using hz
    clear h0
    go_enter Tryd.func11, Tryd.ntmps11
    go_wp2
    go_ret2
    refine ⟨.slice (some ⟨w.heap.size, 0, none⟩) 0 0, by rw [H1.out]; rfl, ?_, (Below.refl _ _).alloc (Nat.le_refl _) _⟩
    rw [H2.out]
    exact ⟨⟨rfl, _, 0, rfl, Nat.le_refl _, by unfold maxLen; omega, .inl rfl⟩, by simp⟩
  · have e1 : finP ⟨#[10]⟩ s = linesB s := by simp [linesB, h0]
    have e2 : splitW 10 (bodyS s) = linesL s := by simp [linesL, h0]
    have H1 := Lib.hid e1
    have H2 := Lib.hid e2
    have HT := Lib.hid (trimS s)
    have Hsz : Hid ((bodyS s).size ≤ 1048576) := by
      apply Lib.hid
      unfold bodyS
      split
      · rw [ByteArray.size_extract]; omega
      · exact hs
    have hz := isEmpty_false (s := s) (by omega)
    have hz2 : ¬ s.toList = [] := by simpa using hz
    have Hz2 := Lib.hid hz2
    clear e1 e2 h0 hz2
    go_enter Tryd.func11, Tryd.ntmps11
    go_wp2_with fail
    refine (Tryd.strings_CutSuffix s ⟨#[10]⟩ _ (by omega)).mono ?_
    rw [show (⟨(Lib.trimSuffix s.data.toList (⟨#[10]⟩ : ByteArray).data.toList).toArray⟩ : ByteArray) = _ from HT.out, show Lib.hasSuffix s.data.toList (⟨#[10]⟩ : ByteArray).data.toList = linesB s from H1.out]
    rintro e w1 ⟨rfl, rfl⟩
    go_wp2_with fail
    refine (split_any _ 10 _ Hsz.out hm).mono ?_
    rw [H2.out]
    rintro e w2 ⟨v2, rfl, hv2, hb2⟩
    go_wp2
    go_ret2
    exact ⟨_, rfl, hv2, hb2⟩
set_option maxHeartbeats 2000000 in
set_option maxRecDepth 20000 in
theorem implReadLexicon_any (s : ByteArray) (w : World) (hs : s.size ≤ 1048576) (hm : MaxL w) :
    Calls Tryd.prog 5 #[.string s] w fun e w' => ∃ v', e = .returned (.tuple #[v', .bool (rlB s)]) ∧ LexW w' w.heap.size w'.heap.size v' (rlW s) ∧ Below w.heap.size w w' := by
  have hb0 : Below w.heap.size w (w.alloc (.cells #[.slice none 0 0] 24)) := (Below.refl _ _).alloc (Nat.le_refl _) _
  have Hr0 := Lib.hid (heap_alloc_new w (.cells #[.slice none 0 0] 24))
  have HM := Lib.hid (hm.below hb0)
  have Hrl := Lib.hid (lines_rl s).1
  have Hrl2 := Lib.hid (lines_rl s).2
  clear hm
  cases hB : linesB s
  all_goals
    have HBs := Lib.hid hB
    go_enter Tryd.func5, Tryd.ntmps5
    go_wp2_with fail
    refine (linesOf_any s _ hs HM.out).mono ?_
    rw [hB]
    rintro e w1 ⟨v1, rfl, hv1, hb1⟩
    clear hB
    obtain ⟨a1, c1, rfl, -, -, -⟩ := hv1.read.shape
    have hk1 := (hb1.block w.heap.size (by simp)).trans Hr0.out
    have d0 : w1.cell? ⟨w.heap.size, 0, none⟩ = some (.slice none 0 0) := by simp [World.cell?, hk1]
    have f0 : w1.frozen? ⟨w.heap.size, 0, none⟩ = false := by simp [World.frozen?, hk1]
    have hsz : w.heap.size + 1 ≤ w1.heap.size := by have := hb1.size; simpa using this
    have HB1 := Lib.hid (hb0.trans (hb1.mono hb0.size))
    have HK1 := Lib.hid hk1
    have HV1 := Lib.hid hv1
    have e0 := cell_alloc (.cells #[.slice a1 (linesL s).length c1] 24) d0
    have g0 : (w1.alloc (.cells #[.slice a1 (linesL s).length c1] 24)).frozen? ⟨w.heap.size, 0, none⟩ = false := by
      have h := (Below.heap_alloc w1 (.cells #[.slice a1 (linesL s).length c1] 24) w.heap.size (by omega)).trans hk1
      simp [World.frozen?, h]
    have HKa := Lib.hid ((Below.heap_alloc w1 (.cells #[.slice a1 (linesL s).length c1] 24) w.heap.size (by omega)).trans hk1)
    have HBa := Lib.hid (HB1.out.alloc HB1.out.size (.cells #[.slice a1 (linesL s).length c1] 24))
    clear hk1 hb1 hb0 hv1
  · have Hno := Lib.hid (show rlB s = false by rw [← Hrl.out, HBs.out]; rfl)
    go_wp2
    have h1 := set1 (.slice none 0 0) HKa.out
    refine bodyPost_ret (v := .tuple #[.agg #[.slice none 0 0], .bool false]) (results_cell_row2 (p := 2) (u := 3) (ty := 24) rfl _ _ (w.heap.size) _ _ _ _ rfl h1 Tryd.underlying24 rfl infoLex) rfl ⟨_, by rw [Hno.out], ⟨_, rfl, ?_⟩, HBa.out.setCell (p := ⟨w.heap.size, 0, none⟩) (by show _ ≤ w.heap.size; omega) _⟩
    rw [rl_no Hno.out]; exact strs_nilL _ _ _
  · cases hL : lexB (linesL s)
    all_goals
      have HL := Lib.hid hL
      clear hL
      go_wp2_with fail
      refine (implValidLexicon_any _ (linesL s) _ ⟨_, rfl, (HV1.out.below ((Below.refl _ _).alloc (Nat.le_refl _) _)).read⟩).mono ?_
      rw [HL.out]
      rintro e w2 ⟨rfl, hb2⟩
      have hk2 := (hb2.block w.heap.size (by simp; omega)).trans HKa.out
      have hx0 := cell_below hb2 (cell_newi w1 #[.slice a1 (linesL s).length c1] 24 0 (.slice a1 (linesL s).length c1) rfl)
      have d2 : w2.cell? ⟨w.heap.size, 0, none⟩ = some (.slice none 0 0) := by simp [World.cell?, hk2]
      have f2 : w2.frozen? ⟨w.heap.size, 0, none⟩ = false := by simp [World.frozen?, hk2]
      have hsz2 : w1.heap.size + 1 ≤ w2.heap.size := by have := hb2.size; simpa using this
      have HB2 := Lib.hid (HBa.out.trans (hb2.mono HBa.out.size))
      have HK2 := Lib.hid hk2
      have HV2 := Lib.hid ((HV1.out.below ((Below.refl _ _).alloc (Nat.le_refl _) (.cells #[.slice a1 (linesL s).length c1] 24))).below hb2)
      clear hk2 hb2 d0 f0 e0 g0 HKa HBa HB1 HK1 HV1
    · have Hno := Lib.hid (show rlB s = false by rw [← Hrl.out, HL.out, Bool.and_false])
      go_wp2
      have h1 := set1 (.slice none 0 0) HK2.out
      refine bodyPost_ret (v := .tuple #[.agg #[.slice none 0 0], .bool false]) (results_cell_row2 (p := 2) (u := 3) (ty := 24) rfl _ _ (w.heap.size) _ _ _ _ rfl h1 Tryd.underlying24 rfl infoLex) rfl ⟨_, by rw [Hno.out], ⟨_, rfl, ?_⟩, HB2.out.setCell (p := ⟨w.heap.size, 0, none⟩) (by show _ ≤ w.heap.size; omega) _⟩
      rw [rl_no Hno.out]; exact strs_nilL _ _ _
    · have Hyes := Lib.hid (show rlB s = true by rw [← Hrl.out, HL.out, HBs.out]; rfl)
      have Hw := Lib.hid (show linesL s = rlW s by rw [rl_yes Hyes.out]; exact Hrl2.out HBs.out)
      go_wp2
      have h1 := set1 (.slice a1 (linesL s).length c1) HK2.out
      refine bodyPost_ret (v := .tuple #[.agg #[.slice a1 (linesL s).length c1], .bool true]) (results_cell_row2 (p := 2) (u := 3) (ty := 24) rfl _ _ (w.heap.size) _ _ _ _ rfl h1 Tryd.underlying24 rfl infoLex) rfl ⟨_, by rw [Hyes.out], ⟨_, rfl, ?_⟩, HB2.out.setCell (p := ⟨w.heap.size, 0, none⟩) (by show _ ≤ w.heap.size; omega) _⟩
      rw [← Hw.out]
      rw [World.size_alloc] at HV2
      exact (HV2.out.kept (kept_setCell (Nat.le_refl _) (Nat.lt_succ_self _) _) (.inr (by simp))).mono (by omega) (by simp [World.setCell]; omega)
set_option maxHeartbeats 2000000 in
set_option maxRecDepth 20000 in
theorem specReadLexicon_any (s : ByteArray) (w : World) (hs : s.size ≤ 1048576) (_hm : MaxL w) :
    Calls Tryd.prog 4 #[.string s] w fun e w' => ∃ v', e = .returned (.tuple #[v', .bool (rlB s)]) ∧ LexW w' w.heap.size w'.heap.size v' (rlW s) ∧ Below w.heap.size w w' := by
  have hb0 : Below w.heap.size w (w.alloc (.cells #[.slice none 0 0] 24)) := (Below.refl _ _).alloc (Nat.le_refl _) _
  have Hr0 := Lib.hid (heap_alloc_new w (.cells #[.slice none 0 0] 24))
  obtain ⟨ps, z, hps⟩ := split_parts 10 s
  have Hps := Lib.hid hps
  have Hrl := Lib.hid (rlB_of hps).1
  have Hrl2 := Lib.hid (rlB_of hps).2
  have hle : ps.length ≤ 1048576 := by have := splitW_len 10 s; rw [hps] at this; simp at this; omega
  clear hps
  by_cases hz : z.size = 0
  all_goals
    have Hz := Lib.hid hz
    clear hz
    go_enter Tryd.func4, Tryd.ntmps4
    go_wp2_with fail
    refine (l01Split_any s _ 10 _ rfl hs).mono ?_
    rw [Hps.out]
    rintro e w1 ⟨v1, rfl, hv1, hb1⟩
    obtain ⟨a1, c1, e1, hc1, hc2, hcs⟩ := hv1.read.shape
    rw [List.length_append, List.length_singleton] at e1 hc1
    subst e1
    obtain ⟨b1, o1, rfl, hcell, -⟩ := hcs ps.length (by simp)
    rw [List.getElem_concat_length rfl] at hcell
    have hinit := hv1.init
    have hk1 := (hb1.block w.heap.size (by simp)).trans Hr0.out
    have d0 : w1.cell? ⟨w.heap.size, 0, none⟩ = some (.slice none 0 0) := by simp [World.cell?, hk1]
    have f0 : w1.frozen? ⟨w.heap.size, 0, none⟩ = false := by simp [World.frozen?, hk1]
    have hsz : w.heap.size + 1 ≤ w1.heap.size := by have := hb1.size; simpa using this
    have HB1 := Lib.hid (hb0.trans (hb1.mono hb0.size))
    have HK1 := Lib.hid hk1
    have HV1 := Lib.hid hinit
    have e0 := cell_alloc (.cells #[.slice (some ⟨b1, o1, none⟩) ps.length c1] 24) d0
    have ec := cell_alloc (.cells #[.slice (some ⟨b1, o1, none⟩) ps.length c1] 24) hcell
    have g0 : (w1.alloc (.cells #[.slice (some ⟨b1, o1, none⟩) ps.length c1] 24)).frozen? ⟨w.heap.size, 0, none⟩ = false := by
      have h := (Below.heap_alloc w1 (.cells #[.slice (some ⟨b1, o1, none⟩) ps.length c1] 24) w.heap.size (by omega)).trans hk1
      simp [World.frozen?, h]
    have HKa := Lib.hid ((Below.heap_alloc w1 (.cells #[.slice (some ⟨b1, o1, none⟩) ps.length c1] 24) w.heap.size (by omega)).trans hk1)
    have HBa := Lib.hid (HB1.out.alloc HB1.out.size (.cells #[.slice (some ⟨b1, o1, none⟩) ps.length c1] 24))
    have hc3 : ps.length + 1 ≤ c1 := hc1
    unfold maxLen at hc2
    clear hk1 hb1 hb0 hv1 hinit hcs hc1
  · have hzt := isEmpty_true Hz.out
    have hzt2 : z.toList = [] := by simpa using hzt
    have hx1 := cell_newi w1 #[.slice (some ⟨b1, o1, none⟩) ps.length c1] 24 0 (.slice (some ⟨b1, o1, none⟩) ps.length c1) rfl
    have HX1 := Lib.hid hx1
    cases hL : lexB ps
    all_goals
      have HL := Lib.hid hL
      clear hL
      go_wp2_with fail
      refine (l05Ok_any w1.heap.size _ ps _ HX1.out ((HV1.out.below ((Below.refl _ _).alloc (Nat.le_refl _) _)).read)).mono ?_
      rw [HL.out]
      rintro e w2 ⟨rfl, q, hw2⟩
      have hb2 : Below (w1.alloc (.cells #[.slice (some ⟨b1, o1, none⟩) ps.length c1] 24)).heap.size (w1.alloc (.cells #[.slice (some ⟨b1, o1, none⟩) ps.length c1] 24)) w2 := by rw [hw2]; exact below_drewN (Below.refl _ _) _
      have hk2 := (hb2.block w.heap.size (by simp; omega)).trans HKa.out
      have hx0 := cell_below hb2 hx1
      have d2 : w2.cell? ⟨w.heap.size, 0, none⟩ = some (.slice none 0 0) := by simp [World.cell?, hk2]
      have f2 : w2.frozen? ⟨w.heap.size, 0, none⟩ = false := by simp [World.frozen?, hk2]
      have hsz2 : w1.heap.size + 1 ≤ w2.heap.size := by have := hb2.size; simpa using this
      have HB2 := Lib.hid (HBa.out.trans (hb2.mono HBa.out.size))
      have HK2 := Lib.hid hk2
      have HV2 := Lib.hid ((HV1.out.below ((Below.refl _ _).alloc (Nat.le_refl _) (.cells #[.slice (some ⟨b1, o1, none⟩) ps.length c1] 24))).below hb2)
      clear hw2 hk2 hb2 d0 f0 e0 g0 ec hcell HKa HBa HB1 HK1 HV1 hx1 HX1
    · have Hno := Lib.hid (show rlB s = false by rw [Hrl.out, HL.out, Bool.and_false])
      go_wp2
      have h1 := set1 (.slice none 0 0) HK2.out
      refine bodyPost_ret (v := .tuple #[.agg #[.slice none 0 0], .bool false]) (results_cell_row2 (p := 2) (u := 3) (ty := 24) rfl _ _ (w.heap.size) _ _ _ _ rfl h1 Tryd.underlying24 rfl infoLex) rfl ⟨_, by rw [Hno.out], ⟨_, rfl, ?_⟩, HB2.out.setCell (p := ⟨w.heap.size, 0, none⟩) (by show _ ≤ w.heap.size; omega) _⟩
      rw [rl_no Hno.out]; exact strs_nilL _ _ _
    · have Hyes := Lib.hid (show rlB s = true by rw [Hrl.out, HL.out, size_zero Hz.out]; simp)
      have Hw := Lib.hid (show ps = rlW s by rw [rl_yes Hyes.out, Hrl2.out])
      go_wp2
      have h1 := set1 (.slice (some ⟨b1, o1, none⟩) ps.length c1) HK2.out
      refine bodyPost_ret (v := .tuple #[.agg #[.slice (some ⟨b1, o1, none⟩) ps.length c1], .bool true]) (results_cell_row2 (p := 2) (u := 3) (ty := 24) rfl _ _ (w.heap.size) _ _ _ _ rfl h1 Tryd.underlying24 rfl infoLex) rfl ⟨_, by rw [Hyes.out], ⟨_, rfl, ?_⟩, HB2.out.setCell (p := ⟨w.heap.size, 0, none⟩) (by show _ ≤ w.heap.size; omega) _⟩
      rw [← Hw.out]
      rw [World.size_alloc] at HV2
      exact (HV2.out.kept (kept_setCell (Nat.le_refl _) (Nat.lt_succ_self _) _) (.inr (by simp))).mono (by omega) (by simp [World.setCell]; omega)
  · have hzf := isEmpty_false (s := z) (by have := Hz.out; omega)
    have Hno := Lib.hid (show rlB s = false by rw [Hrl.out, decide_eq_false (fun e => Hz.out (by rw [e]; rfl))]; rfl)
    go_wp2
    have h1 := set1 (.slice none 0 0) HKa.out
    refine bodyPost_ret (v := .tuple #[.agg #[.slice none 0 0], .bool false]) (results_cell_row2 (p := 2) (u := 3) (ty := 24) rfl _ _ (w.heap.size) _ _ _ _ rfl h1 Tryd.underlying24 rfl infoLex) rfl ⟨_, by rw [Hno.out], ⟨_, rfl, ?_⟩, HBa.out.setCell (p := ⟨w.heap.size, 0, none⟩) (by show _ ≤ w.heap.size; omega) _⟩
    rw [rl_no Hno.out]; exact strs_nilL _ _ _
end Go.Proofs.YtlompohfibcjfaaDoor
