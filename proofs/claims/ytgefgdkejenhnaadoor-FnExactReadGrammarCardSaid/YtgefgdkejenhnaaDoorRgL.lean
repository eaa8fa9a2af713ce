/- ReadGrammar, plainly: what the reference and the program make of the lines of a grammar's text. No program is walked. -/
import Derived.Test.YtgefgdkejenhnaaDoorGxL
import Derived.Test.YtgefgdkejenhnaaDoorLg
namespace Go.Proofs.YtgefgdkejenhnaaDoor
open Go.RowKit
/-- A part of a word out of what is written. -/
def unB (s : ByteArray) : ByteArray := if s.toList == [45] then ⟨#[]⟩ else s
def emptyG : GraD := ⟨[], []⟩
def atW (ws : List ByteArray) (i : Nat) : ByteArray := (ws[i]?).getD ⟨#[]⟩
theorem atW_at {ws : List ByteArray} {i : Nat} (h : i < ws.length) : atW ws i = ws[i] := by simp [atW, h]
def isB (s : ByteArray) (l : List UInt8) : Bool := s.toList == l
def affKey : List UInt8 := [97, 102, 102, 105, 120]
def stmKey : List UInt8 := [115, 116, 101, 109]
def frontKey : List UInt8 := [102, 114, 111, 110, 116]
def backKey : List UInt8 := [98, 97, 99, 107]
def affOfW (ws : List ByteArray) : AffD := ⟨atW ws 1, isB (atW ws 2) frontKey, unB (atW ws 3), unB (atW ws 4), unB (atW ws 5)⟩
/-- The reference's step: a grammar, the words of a line. -/
def specLine (g : GraD) (ws : List ByteArray) : Option GraD :=
  if isB (atW ws 0) affKey = true ∧ ws.length = 6 ∧ g.stems.length = 0 then
    (if (isB (atW ws 3) [] = false ∧ isB (atW ws 4) [] = false ∧ isB (atW ws 5) [] = false) ∧ (isB (atW ws 2) frontKey = true ∨ isB (atW ws 2) backKey = true) then some ⟨g.affixes ++ [affOfW ws], g.stems⟩ else none)
  else if isB (atW ws 0) stmKey = true ∧ 1 < ws.length then some ⟨g.affixes, g.stems ++ [⟨atW ws 1, ws.drop 2⟩]⟩
  else none
/-- The program's. -/
def implLine (g : GraD) (ws : List ByteArray) : Option GraD :=
  if isB (atW ws 0) affKey = true ∧ ws.length = 6 then some ⟨g.affixes ++ [affOfW ws], g.stems⟩
  else if isB (atW ws 0) stmKey = true ∧ 2 ≤ ws.length then some ⟨g.affixes, g.stems ++ [⟨atW ws 1, ws.drop 2⟩]⟩
  else none
def foldG (f : GraD → List ByteArray → Option GraD) (g : GraD) : List ByteArray → Option GraD
  | [] => some g
  | s :: r => match f g (splitW 32 s) with | none => none | some g' => foldG f g' r
theorem foldG_snoc (f : GraD → List ByteArray → Option GraD) : ∀ (l : List ByteArray) (g : GraD) (s : ByteArray), foldG f g (l ++ [s]) = match foldG f g l with | none => none | some g' => f g' (splitW 32 s)
  | [], g, s => by
    simp only [List.nil_append, foldG]
    cases f g (splitW 32 s) <;> rfl
  | a :: l, g, s => by
    simp only [List.cons_append, foldG]
    cases f g (splitW 32 a) with
    | none => rfl
    | some g2 => exact foldG_snoc f l g2 s
theorem foldG_take {f : GraD → List ByteArray → Option GraD} {l : List ByteArray} {j : Nat} (h : j < l.length) {g g' : GraD} (hg : foldG f g (l.take j) = some g') : foldG f g (l.take (j + 1)) = f g' (splitW 32 l[j]) := by
  rw [List.take_succ_eq_append_getElem h, foldG_snoc, hg]
theorem foldG_none {f : GraD → List ByteArray → Option GraD} : ∀ {l r : List ByteArray} {g : GraD}, foldG f g l = none → foldG f g (l ++ r) = none
  | [], r, g, h => by simp [foldG] at h
  | a :: l, r, g, h => by
    simp only [List.cons_append, foldG] at h ⊢
    cases hf : f g (splitW 32 a) with
    | none => rfl
    | some g2 => rw [hf] at h; exact foldG_none h
theorem foldG_stop {f : GraD → List ByteArray → Option GraD} {l : List ByteArray} {j : Nat} {g : GraD} (h : foldG f g (l.take j) = none) : foldG f g l = none := by
  rw [← List.take_append_drop j l]; exact foldG_none h
theorem spec_impl {g g' : GraD} {ws : List ByteArray} (h : specLine g ws = some g') : implLine g ws = some g' := by
  unfold specLine at h
  unfold implLine
  split at h
  · rename_i h1
    rw [if_pos ⟨h1.1, h1.2.1⟩]
    split at h
    · exact h
    · cases h
  · split at h
    · rename_i h1 h2
      have hk : ¬ (isB (atW ws 0) affKey = true) := by
        intro e
        have e1 : (atW ws 0).toList = affKey := by simpa [isB] using e
        have e2 : (atW ws 0).toList = stmKey := by simpa [isB] using h2.1
        rw [e1] at e2
        exact absurd e2 (by decide)
      rw [if_neg fun e => hk e.1, if_pos ⟨h2.1, by omega⟩]
      exact h
    · cases h
theorem foldG_spec : ∀ (l : List ByteArray) (g g' : GraD), foldG specLine g l = some g' → foldG implLine g l = some g'
  | [], _, _, h => h
  | a :: l, g, g', h => by
    simp only [foldG] at h ⊢
    cases hf : specLine g (splitW 32 a) with
    | none => rw [hf] at h; cases h
    | some g2 => rw [hf] at h; rw [spec_impl hf]; exact foldG_spec l g2 g' h
theorem join_split (c : UInt8) : ∀ l : List UInt8, Lib.join (splitC c l) [c] = l
  | [] => by simp [splitC, Lib.join_one]
  | b :: l => by
    have ih := join_split c l
    have hne := splitC_ne c l
    rw [splitC]
    cases hs : splitC c l with
    | nil => exact absurd hs hne
    | cons p ps =>
      rw [hs, Lib.join_cons] at ih
      by_cases hb : b = c
      · rw [if_pos hb, Lib.join_cons, hb]
        simp only [Lib.joinTail, List.map_cons, List.flatten_cons, List.nil_append, List.singleton_append] at ih ⊢
        rw [List.cons_append, ih]
      · rw [if_neg hb]
        simp only []
        rw [Lib.join_cons, List.cons_append, ih]
theorem join_splitW (c : UInt8) (s : ByteArray) : Lib.join ((splitW c s).map (·.data.toList)) [c] = s.data.toList := by
  have : (splitW c s).map (·.data.toList) = splitC c s.data.toList := by
    unfold splitW; rw [List.map_map]
    conv => rhs; rw [← List.map_id (splitC c s.data.toList)]
    exact List.map_congr_left fun l _ => baL_data l
  rw [this]; exact join_split c _
theorem toL (s : ByteArray) : s.toList = s.data.toList := Lib.toList_data s
theorem isB_eq {s : ByteArray} {l : List UInt8} (h : isB s l = true) : s = baL l := by
  have : s.data.toList = l := by rw [← toL]; simpa [isB] using h
  rw [← this]; rfl
theorem isB_ne {s : ByteArray} {l : List UInt8} (h : isB s l = false) : s.data.toList ≠ l := by
  intro e
  rw [← toL] at e
  simp [isB, e] at h
theorem dash_un {s : ByteArray} (h : isB s [] = false) : dashB (unB s) = s := by
  unfold unB
  split
  · rename_i h1
    have : s = ⟨#[45]⟩ := isB_eq (l := [45]) h1
    rw [this]; decide +kernel
  · unfold dashB
    rw [if_neg]
    intro e
    have := isB_ne h
    rw [toL, List.isEmpty_iff] at e
    exact this e
theorem un_dash {s : ByteArray} (h : s.data.toList ≠ [45]) : unB (dashB s) = s := by
  unfold dashB
  split
  · rename_i h1
    rw [toL, List.isEmpty_iff] at h1
    have : s = ⟨#[]⟩ := by rw [← baL_of s, h1]; rfl
    rw [this]; decide +kernel
  · unfold unB
    rw [if_neg]
    intro e
    rw [toL] at e
    exact h (by simpa using e)
theorem six_words {ws : List ByteArray} (h : ws.length = 6) : ws = [atW ws 0, atW ws 1, atW ws 2, atW ws 3, atW ws 4, atW ws 5] := by
  match ws, h with
  | [a, b, c, d, e, f], _ => rfl
theorem two_words {ws : List ByteArray} (h : 1 < ws.length) : ws = [atW ws 0, atW ws 1] ++ ws.drop 2 := by
  match ws, h with
  | a :: b :: r, _ => rfl
theorem textG_affix (g : GraD) (x : AffD) (h : g.stems.length = 0) : textG ⟨g.affixes ++ [x], g.stems⟩ = textG g ++ affT x := by
  have : g.stems = [] := List.length_eq_zero_iff.1 h
  simp [textG, this]
theorem textG_stem (g : GraD) (s : StemD) : textG ⟨g.affixes, g.stems ++ [s]⟩ = textG g ++ stmT s := by simp [textG]
/-- What the reference has read it would write so. -/
theorem specLine_text {g g' : GraD} {s : ByteArray} (h : specLine g (splitW 32 s) = some g') : textG g' = textG g ++ (s.data.toList ++ [10]) := by
  have hj := join_splitW 32 s
  generalize hw : splitW 32 s = ws at h hj
  unfold specLine at h
  split at h
  · rename_i h1
    obtain ⟨h1, h2, h3⟩ := h1
    split at h
    · rename_i h4
      obtain ⟨⟨h5, h6, h7⟩, h8⟩ := h4
      cases h
      rw [textG_affix g _ h3, ← join_affW, ← hj]
      have e0 : atW ws 0 = ⟨#[97, 102, 102, 105, 120]⟩ := isB_eq h1
      have e2 : sideB (isB (atW ws 2) frontKey) = atW ws 2 := by
        cases hf : isB (atW ws 2) frontKey
        · rw [hf] at h8
          have := isB_eq (h8.resolve_left (by simp))
          rw [this]; rfl
        · rw [isB_eq hf]; rfl
      have e : affW (affOfW ws) = ws := by
        conv => rhs; rw [six_words h2, e0]
        simp only [affW, affOfW, e2, dash_un h5, dash_un h6, dash_un h7]
      rw [e]
    · cases h
  · split at h
    · rename_i h2
      obtain ⟨h1, h2⟩ := h2
      cases h
      rw [textG_stem, ← join_stmW, ← hj]
      have e0 : atW ws 0 = ⟨#[115, 116, 101, 109]⟩ := isB_eq h1
      have e : stmW ⟨atW ws 1, ws.drop 2⟩ = ws := by
        conv => rhs; rw [two_words h2, e0]
        rfl
      rw [e]
    · cases h
theorem foldG_text : ∀ (l : List ByteArray) (g g' : GraD), foldG specLine g l = some g' → textG g' = textG g ++ l.flatMap fun s => s.data.toList ++ [10]
  | [], g, g', h => by simp only [foldG] at h; cases h; simp
  | a :: l, g, g', h => by
    simp only [foldG] at h
    cases hf : specLine g (splitW 32 a) with
    | none => rw [hf] at h; cases h
    | some g2 =>
      rw [hf] at h
      rw [foldG_text l g2 g' h, specLine_text hf, List.flatMap_cons]
      simp
/-- No blank, no newline. -/
def plainW (s : ByteArray) : Prop := ∀ b ∈ s.data.toList, b ≠ 32 ∧ b ≠ 10 ∧ b ≠ 45
def plainL (s : ByteArray) : Prop := ∀ b ∈ s.data.toList, b ≠ 32 ∧ b ≠ 10
theorem name_plain {s : ByteArray} (h : isName s = true) : plainL s := by
  intro b hb
  simp only [isName, Bool.and_eq_true] at h
  have := List.all_eq_true.1 h.1.1 b hb
  refine ⟨?_, ?_⟩ <;> (rintro rfl; revert this; decide)
theorem letters_plain {s : ByteArray} {d : Bool} (h : lettersB s d = true) : plainW s := by
  intro b hb
  simp only [lettersB, Bool.and_eq_true] at h
  have := List.all_eq_true.1 h.1 b hb
  refine ⟨?_, ?_, ?_⟩ <;> (rintro rfl; revert this; cases d <;> decide)
theorem isLongW {s : ByteArray} (h : isLong s = true) : isWord s = true := by
  simp only [isLong, Bool.and_eq_true] at h; exact h.1
theorem word_plain {s : ByteArray} (h : isLong s = true) : plainW s := by
  intro b hb
  have h2 := isLongW h
  simp only [isWord, Bool.and_eq_true] at h2
  have := List.all_eq_true.1 h2.1 b hb
  refine ⟨?_, ?_, ?_⟩ <;> (rintro rfl; revert this; decide)
theorem dash_plain {s : ByteArray} (h : plainW s) : plainL (dashB s) := by
  unfold dashB
  split
  · intro b hb
    have : b = 45 := by simpa using hb
    subst this; decide
  · exact fun b hb => ⟨(h b hb).1, (h b hb).2.1⟩
theorem side_plain (f : Bool) : plainL (sideB f) := by
  intro b hb
  cases f <;> (simp [sideB] at hb; rcases hb with rfl | rfl | rfl | rfl | rfl <;> decide)
theorem splitC_join (c : UInt8) : ∀ (p : List UInt8) (ps : List (List UInt8)), (∀ w ∈ p :: ps, ∀ b ∈ w, b ≠ c) → splitC c (Lib.join (p :: ps) [c]) = p :: ps
  | p, [], h => by rw [Lib.join_one, splitC_none c p (h p (by simp))]
  | p, q :: ps, h => by
    have ih := splitC_join c q ps fun w hw => h w (List.mem_cons_of_mem _ hw)
    rw [Lib.join_cons] at ih ⊢
    simp only [Lib.joinTail, List.map_cons, List.flatten_cons, List.singleton_append] at ih ⊢
    rw [List.cons_append, splitC_app c p _ (h p (by simp)), ih]
theorem splitW_join (w : ByteArray) (ws : List ByteArray) (h : ∀ x ∈ w :: ws, plainL x) : splitW 32 (baL (Lib.join ((w :: ws).map (·.data.toList)) [32])) = w :: ws := by
  unfold splitW
  rw [baL_data, List.map_cons, splitC_join 32]
  · show List.map baL ((w :: ws).map (·.data.toList)) = w :: ws
    rw [List.map_map]
    conv => rhs; rw [← List.map_id (w :: ws)]
    exact List.map_congr_left fun x _ => baL_of x
  · intro l hl b hb
    obtain ⟨x, hx, rfl⟩ := List.mem_map.1 (show l ∈ (w :: ws).map (·.data.toList) from hl)
    exact (h x hx b hb).1
theorem split_lines (c : UInt8) : ∀ (ws : List (List UInt8)), (∀ w ∈ ws, ∀ b ∈ w, b ≠ c) → splitC c (ws.flatMap fun w => w ++ [c]) = ws ++ [[]]
  | [], _ => rfl
  | w :: ws, h => by
    rw [List.flatMap_cons, List.append_assoc, List.singleton_append, splitC_app c w _ (h w (List.mem_cons_self ..)), split_lines c ws fun w' hw => h w' (List.mem_cons_of_mem _ hw)]
    rfl
def affLine (x : AffD) : ByteArray := baL (Lib.join ((affW x).map (·.data.toList)) [32])
def stmLine (s : StemD) : ByteArray := baL (Lib.join ((stmW s).map (·.data.toList)) [32])
def linesG (g : GraD) : List ByteArray := g.affixes.map affLine ++ g.stems.map stmLine
theorem textG_lines (g : GraD) : textG g = (linesG g).flatMap fun s => s.data.toList ++ [10] := by
  unfold textG linesG
  rw [List.flatMap_append]
  congr 1
  · rw [List.flatMap_map]
    exact congrArg (fun f => List.flatMap f g.affixes) (funext fun x => by rw [affLine, baL_data, join_affW])
  · rw [List.flatMap_map]
    exact congrArg (fun f => List.flatMap f g.stems) (funext fun x => by rw [stmLine, baL_data, join_stmW])
theorem join_no (c : UInt8) (hc : c ≠ 32) (ws : List ByteArray) (h : ∀ x ∈ ws, ∀ b ∈ x.data.toList, b ≠ c) : ∀ b ∈ Lib.join (ws.map (·.data.toList)) [32], b ≠ c := by
  cases ws with
  | nil => simp [Lib.join_nil]
  | cons w ws =>
    intro b hb
    rw [List.map_cons, Lib.join_cons] at hb
    rcases List.mem_append.1 hb with hb | hb
    · exact h w (by simp) b hb
    · simp only [Lib.joinTail, List.mem_flatten, List.mem_map] at hb
      obtain ⟨l, ⟨m, ⟨x, hx, rfl⟩, rfl⟩, hb⟩ := hb
      rcases List.mem_append.1 hb with hb | hb
      · rw [List.mem_singleton.1 hb]; exact Ne.symm hc
      · exact h x (by simp [hx]) b hb
theorem affW_plain {x : AffD} (h : affB x = true) : ∀ y ∈ affW x, plainL y := by
  obtain ⟨h1, h2, h3, h4, -⟩ := affB_parts h
  intro y hy
  simp only [affW, List.mem_cons, List.not_mem_nil, or_false] at hy
  rcases hy with rfl | rfl | rfl | rfl | rfl | rfl
  · intro b hb; simp at hb; rcases hb with rfl | rfl | rfl | rfl | rfl <;> decide
  · exact name_plain h1
  · exact side_plain _
  · exact dash_plain (letters_plain h2)
  · exact dash_plain (letters_plain h3)
  · exact dash_plain (letters_plain h4)
structure GraT (g : GraD) : Prop where
  a : ∀ x ∈ g.affixes, affB x = true
  s : ∀ s ∈ g.stems, isLong s.word = true ∧ ∀ u ∈ s.uses, isName u = true
theorem graB_ok {g : GraD} (h : graB g = true) : GraOk g := by
  by_cases h2 : GraOk g
  · exact h2
  · rw [graB_no h2] at h; cases h
theorem graT {g : GraD} (h : graB g = true) : GraT g := by
  have h := graB_ok h
  refine ⟨fun x hx => ?_, fun s hs => ?_⟩
  · obtain ⟨i, hi, rfl⟩ := List.getElem_of_mem hx
    exact (h.1 i hi).1
  · obtain ⟨i, hi, rfl⟩ := List.getElem_of_mem hs
    have hs := h.2.1.1 i hi
    simp only [stemB, Bool.and_eq_true, List.all_eq_true] at hs
    obtain ⟨⟨h1, h2⟩, h3⟩ := hs
    refine ⟨h3, fun u hu => ?_⟩
    obtain ⟨a, ha, he⟩ := List.any_eq_true.1 (h1 u hu)
    have he : a.name = u := by simpa using he
    obtain ⟨k, hk, rfl⟩ := List.getElem_of_mem ha
    rw [← he]
    exact (affB_parts (h.1 k hk).1).1
theorem stmW_plain {s : StemD} (h : isLong s.word = true ∧ ∀ u ∈ s.uses, isName u = true) : ∀ y ∈ stmW s, plainL y := by
  intro y hy
  simp only [stmW, List.cons_append, List.nil_append, List.mem_cons] at hy
  rcases hy with rfl | rfl | hy
  · intro b hb; simp at hb; rcases hb with rfl | rfl | rfl | rfl <;> decide
  · exact fun b hb => ⟨(word_plain h.1 b hb).1, (word_plain h.1 b hb).2.1⟩
  · exact name_plain (h.2 y hy)
theorem linesG_plain {g : GraD} (h : GraT g) : ∀ s ∈ linesG g, ∀ b ∈ s.data.toList, b ≠ 10 := by
  intro s hs
  rcases List.mem_append.1 hs with hs | hs
  · obtain ⟨x, hx, rfl⟩ := List.mem_map.1 hs
    rw [affLine, baL_data]
    exact join_no 10 (by decide) _ fun y hy b hb => (affW_plain (h.a x hx) y hy b hb).2
  · obtain ⟨x, hx, rfl⟩ := List.mem_map.1 hs
    rw [stmLine, baL_data]
    exact join_no 10 (by decide) _ fun y hy b hb => (stmW_plain (h.s x hx) y hy b hb).2
theorem split_textG {g : GraD} (h : GraT g) : splitW 10 (baL (textG g)) = linesG g ++ [⟨#[]⟩] := by
  unfold splitW
  rw [baL_data, textG_lines]
  have : ((linesG g).flatMap fun s => s.data.toList ++ [10]) = ((linesG g).map (·.data.toList)).flatMap fun w => w ++ [10] := by rw [List.flatMap_map]
  rw [this, split_lines 10]
  · rw [List.map_append, List.map_map]
    congr 1
    conv => rhs; rw [← List.map_id (linesG g)]
    exact List.map_congr_left fun x _ => baL_of x
  · intro w hw
    obtain ⟨s, hs, rfl⟩ := List.mem_map.1 hw
    exact linesG_plain h s hs
theorem specLine_aff {x : AffD} (h : affB x = true) (l : List AffD) : specLine ⟨l, []⟩ (splitW 32 (affLine x)) = some ⟨l ++ [x], []⟩ := by
  have hs : splitW 32 (affLine x) = affW x := splitW_join _ _ (affW_plain h)
  obtain ⟨h1, h2, h3, h4, -⟩ := affB_parts h
  have hd : ∀ s : ByteArray, isB (dashB s) [] = false := fun s => by
    cases hq : isB (dashB s) [] with
    | false => rfl
    | true =>
      have := isB_eq hq
      unfold dashB at this
      split at this
      · exact absurd this (by decide)
      · rename_i h0
        rw [this] at h0
        exact absurd (by decide +kernel) h0
  have hu : ∀ s : ByteArray, plainW s → unB (dashB s) = s := fun s hp => un_dash fun e => by
    have := hp 45 (by rw [e]; simp)
    exact this.2.2 rfl
  have hf : isB (sideB x.front) frontKey = x.front := by cases x.front <;> decide +kernel
  have ho : isB (sideB x.front) frontKey = true ∨ isB (sideB x.front) backKey = true := by cases x.front <;> decide +kernel
  rw [hs]
  unfold specLine
  rw [if_pos ⟨show isB ⟨#[97, 102, 102, 105, 120]⟩ affKey = true by decide +kernel, rfl, rfl⟩]
  have e3 : atW (affW x) 3 = dashB x.cond := rfl
  have e4 : atW (affW x) 4 = dashB x.strip := rfl
  have e5 : atW (affW x) 5 = dashB x.add := rfl
  have e2 : atW (affW x) 2 = sideB x.front := rfl
  have e1 : atW (affW x) 1 = x.name := rfl
  rw [if_pos ⟨⟨by rw [e3]; exact hd _, by rw [e4]; exact hd _, by rw [e5]; exact hd _⟩, by rw [e2]; exact ho⟩]
  unfold affOfW
  rw [e1, e2, e3, e4, e5, hf, hu _ (letters_plain h2), hu _ (letters_plain h3), hu _ (letters_plain h4)]
theorem specLine_stm {s : StemD} (h : isLong s.word = true ∧ ∀ u ∈ s.uses, isName u = true) (g : GraD) : specLine g (splitW 32 (stmLine s)) = some ⟨g.affixes, g.stems ++ [s]⟩ := by
  have hs : splitW 32 (stmLine s) = stmW s := splitW_join _ _ (stmW_plain h)
  rw [hs]
  unfold specLine
  rw [if_neg (fun e => absurd e.1 (by
    have : atW (stmW s) 0 = ⟨#[115, 116, 101, 109]⟩ := rfl
    rw [this]; decide +kernel)), if_pos ⟨by
      have : atW (stmW s) 0 = ⟨#[115, 116, 101, 109]⟩ := rfl
      rw [this]; decide +kernel, by simp [stmW]⟩]
  rfl
theorem fold_affs : ∀ (l r : List AffD) (ls : List ByteArray), (∀ x ∈ l, affB x = true) → foldG specLine ⟨r, []⟩ (l.map affLine ++ ls) = foldG specLine ⟨r ++ l, []⟩ ls
  | [], r, ls, _ => by simp
  | x :: l, r, ls, h => by
    have := fold_affs l (r ++ [x]) ls fun y hy => h y (List.mem_cons_of_mem _ hy)
    rw [List.append_assoc, List.singleton_append] at this
    rw [List.map_cons, List.cons_append, foldG, specLine_aff (h x (List.mem_cons_self ..))]
    exact this
theorem fold_stms : ∀ (l : List StemD) (g : GraD), (∀ s ∈ l, isLong s.word = true ∧ ∀ u ∈ s.uses, isName u = true) → foldG specLine g (l.map stmLine) = some ⟨g.affixes, g.stems ++ l⟩
  | [], g, _ => by simp [foldG]
  | x :: l, g, h => by
    have := fold_stms l ⟨g.affixes, g.stems ++ [x]⟩ fun y hy => h y (List.mem_cons_of_mem _ hy)
    rw [List.append_assoc, List.singleton_append] at this
    rw [List.map_cons, foldG, specLine_stm (h x (List.mem_cons_self ..))]
    exact this
/-- A valid grammar's text is read back. -/
theorem spec_back {g : GraD} (h : GraT g) : foldG specLine emptyG (linesG g) = some g := by
  unfold linesG emptyG
  rw [fold_affs _ _ _ h.a, fold_stms _ _ h.s]
  simp
/-- The valid grammar that a text is of. -/
noncomputable def readV (s : ByteArray) : Option GraD := open Classical in if h : ∃ g, graB g = true ∧ baL (textG g) = s then some h.choose else none
theorem text_inj {g g' : GraD} (h : graB g = true) (h' : graB g' = true) (e : baL (textG g) = baL (textG g')) : g = g' := by
  have h1 := split_textG (graT h)
  have h2 := split_textG (graT h')
  rw [e, h2] at h1
  have h3 := List.append_cancel_right h1
  have h4 := spec_back (graT h)
  rw [← h3, spec_back (graT h')] at h4
  exact (Option.some.inj h4).symm
theorem readV_some {g : GraD} (h : graB g = true) : readV (baL (textG g)) = some g := by
  have hx : ∃ g', graB g' = true ∧ baL (textG g') = baL (textG g) := ⟨g, h, rfl⟩
  unfold readV
  rw [dif_pos hx, text_inj hx.choose_spec.1 h hx.choose_spec.2]
theorem readV_none {s : ByteArray} (h : ∀ g, graB g = true → baL (textG g) ≠ s) : readV s = none := by
  unfold readV; rw [dif_neg]; rintro ⟨g, H, e⟩; exact h g H e
theorem readV_is {s : ByteArray} {g : GraD} (h : graB g = true) (e : baL (textG g) = s) : readV s = some g := e ▸ readV_some h
theorem readV_cases (s : ByteArray) : (∃ g, graB g = true ∧ baL (textG g) = s ∧ readV s = some g) ∨ (readV s = none ∧ ∀ g, graB g = true → baL (textG g) ≠ s) := by
  by_cases h : ∃ g, graB g = true ∧ baL (textG g) = s
  · obtain ⟨g, h1, h2⟩ := h
    exact .inl ⟨g, h1, h2, readV_is h1 h2⟩
  · have h' : ∀ g, graB g = true → baL (textG g) ≠ s := fun g h1 h2 => h ⟨g, h1, h2⟩
    exact .inr ⟨readV_none h', h'⟩
theorem linesG_len {g : GraD} (h : graB g = true) : (linesG g).length ≤ 42 := by
  have := graB_ok h
  have h1 := this.2.2.1
  have h2 := this.2.2.2
  simp [linesG]; omega
/-- The reference: where its lines are in order, the fold; the answer is readV. -/
theorem spec_some {s : ByteArray} {ps : List ByteArray} {g : GraD} (h : splitW 10 s = ps ++ [⟨#[]⟩]) (hf : foldG specLine emptyG ps = some g) (hg : graB g = true) : readV s = some g := by
  refine readV_is hg ?_
  rw [foldG_text ps _ _ hf]
  have e : (textG emptyG ++ ps.flatMap fun s => s.data.toList ++ [10]) = s.data.toList := by
    have := join_splitW 10 s
    rw [← this, h]
    show [] ++ _ = _
    rw [List.nil_append]
    clear this h hf
    induction ps with
    | nil => simp [Lib.join_one]
    | cons p ps ih =>
      rw [List.flatMap_cons, ih, List.cons_append, List.map_cons, Lib.join_cons]
      cases ps with
      | nil => simp [Lib.join_one, Lib.joinTail]
      | cons q ps => rw [List.cons_append, List.map_cons, Lib.join_cons]; simp [Lib.joinTail]
  rw [e, baL_of]
theorem spec_no {s : ByteArray} {ps : List ByteArray} {z : ByteArray} (h : splitW 10 s = ps ++ [z]) (hn : z ≠ ⟨#[]⟩ ∨ 42 < ps.length ∨ foldG specLine emptyG ps = none ∨ ∃ g, foldG specLine emptyG ps = some g ∧ graB g = false) : readV s = none := by
  refine readV_none fun g hg e => ?_
  have h1 := split_textG (graT hg)
  rw [e, h] at h1
  have h2 := List.append_inj_left' h1 rfl
  have h3 : z = ⟨#[]⟩ := by simpa using List.append_inj_right' h1 rfl
  have hb := spec_back (graT hg)
  rw [← h2] at hb
  rcases hn with hn | hn | hn | ⟨g', hn, hn2⟩
  · exact hn h3
  · have := linesG_len hg
    rw [← h2] at this; omega
  · rw [hn] at hb; cases hb
  · rw [hn] at hb; cases hb; rw [hg] at hn2; cases hn2
/-- The program: its lines are linesL. -/
theorem impl_no {s : ByteArray} (hn : linesB s = false ∨ 42 < (linesL s).length ∨ foldG implLine emptyG (linesL s) = none ∨ ∃ g, foldG implLine emptyG (linesL s) = some g ∧ (graB g = false ∨ baL (textG g) ≠ s)) : readV s = none := by
  refine readV_none fun g hg e => ?_
  have h1 := split_textG (graT hg)
  rw [e] at h1
  have hb : linesB s = true := by
    cases hq : linesB s with
    | true => rfl
    | false =>
      unfold linesB at hq
      split at hq
      · cases hq
      · rename_i h0
        exact absurd (by rw [h1]; simp; rfl) (splitW_last hq (by omega))
  have h2 := (lines_rl s).2 hb
  rw [h1, List.dropLast_concat] at h2
  have hbk := foldG_spec _ _ _ (spec_back (graT hg))
  rw [← h2] at hbk
  rcases hn with hn | hn | hn | ⟨g', hn, hn2⟩
  · rw [hn] at hb; cases hb
  · have := linesG_len hg
    rw [← h2] at this; omega
  · rw [hn] at hbk; cases hbk
  · rw [hn] at hbk; cases hbk
    rcases hn2 with hn2 | hn2
    · rw [hg] at hn2; cases hn2
    · exact hn2 e
end Go.Proofs.YtgefgdkejenhnaaDoor
