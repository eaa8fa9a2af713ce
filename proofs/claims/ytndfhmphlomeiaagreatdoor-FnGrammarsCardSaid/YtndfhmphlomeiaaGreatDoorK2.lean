/- Several texts of this proof, joined: each is headed by its own sentence. Their conditions stand there. -/
import Derived.Test.YtndfhmphlomeiaaGreatDoorVg
import Derived.Lib.Join
import Derived.Test.YtndfhmphlomeiaaGreatDoorK0
import Derived.Deep.AppendLies
import Derived.Laws.ResultCell
import Derived.Laws.Rows
import Derived.Maps.AppendAt
import Derived.Deep.DeepCutAuto
import Derived.ChangeSlices
set_option linter.unusedSimpArgs false
/- The text of a grammar, plainly. No program is walked. -/
namespace Go.Proofs.YtndfhmphlomeiaaGreatDoor
/-- A part of a word as it is written: a hyphen for none. -/
def dashB (s : ByteArray) : ByteArray := if s.toList.isEmpty then ⟨#[45]⟩ else s
def sideB (f : Bool) : ByteArray := if f then ⟨#[102, 114, 111, 110, 116]⟩ else ⟨#[98, 97, 99, 107]⟩
theorem dashB_le {s : ByteArray} (h : s.size ≤ 4) : (dashB s).size ≤ 4 := by
  unfold dashB; split
  · decide
  · exact h
theorem sideB_le (f : Bool) : (sideB f).size ≤ 5 := by cases f <;> decide
/-- The line of an affix. -/
def affT (x : AffD) : List UInt8 := [97, 102, 102, 105, 120, 32] ++ x.name.data.toList ++ [32] ++ (sideB x.front).data.toList ++ [32] ++ (dashB x.cond).data.toList ++ [32] ++ (dashB x.strip).data.toList ++ [32] ++ (dashB x.add).data.toList ++ [10]
/-- The line of a stem, with its first k uses and without its end. -/
def usesT (l : List ByteArray) : List UInt8 := l.flatMap fun u => 32 :: u.data.toList
def stmT (s : StemD) : List UInt8 := [115, 116, 101, 109, 32] ++ s.word.data.toList ++ usesT s.uses ++ [10]
def textG (g : GraD) : List UInt8 := g.affixes.flatMap affT ++ g.stems.flatMap stmT
noncomputable def gtV (g : GraD) : ByteArray := if graB g = true then ⟨(textG g).toArray⟩ else ⟨#[]⟩
theorem gtV_no {g : GraD} (h : graB g = false) : gtV g = ⟨#[]⟩ := by simp [gtV, h]
theorem gtV_yes {g : GraD} (h : graB g = true) : gtV g = ⟨(textG g).toArray⟩ := by simp [gtV, h]
theorem flat_snoc {α β : Type} (f : α → List β) (l : List α) (j : Nat) (h : j < l.length) : (l.take (j + 1)).flatMap f = (l.take j).flatMap f ++ f l[j] := by
  rw [List.take_succ_eq_append_getElem h, List.flatMap_append]; simp
theorem flat_all {α β : Type} (f : α → List β) (l : List α) : (l.take l.length).flatMap f = l.flatMap f := by rw [List.take_length]
theorem flat_bound {α β : Type} (f : α → List β) (m : Nat) : ∀ l : List α, (∀ x ∈ l, (f x).length ≤ m) → (l.flatMap f).length ≤ l.length * m
  | [], _ => by simp
  | a :: l, h => by
    rw [List.flatMap_cons, List.length_append, List.length_cons, Nat.succ_mul]
    have h1 := h a (List.mem_cons_self ..)
    have h2 := flat_bound f m l fun x hx => h x (List.mem_cons_of_mem _ hx)
    omega
/-- Sizes of a valid affix. -/
structure AffS (x : AffD) : Prop where
  n : 1 ≤ x.name.size ∧ x.name.size ≤ 12
  c : x.cond.size ≤ 4
  s : x.strip.size ≤ 4
  a : x.add.size ≤ 4
theorem affB_sizes {x : AffD} (h : affB x = true) : AffS x := by
  obtain ⟨h1, h2, h3, h4, -⟩ := affB_parts h
  refine ⟨?_, lettersB_le h2, lettersB_le h3, lettersB_le h4⟩
  simp only [isName, inI, Bool.and_eq_true, decide_eq_true_eq] at h1
  omega
theorem affT_le {x : AffD} (h : AffS x) : (affT x).length ≤ 48 := by
  have h1 := h.n; have h2 := dashB_le h.c; have h3 := dashB_le h.s; have h4 := dashB_le h.a; have h5 := sideB_le x.front
  simp [affT]; omega
theorem nodup_le {α : Type} [DecidableEq α] : ∀ (a b : List α), a.Nodup → (∀ x ∈ a, x ∈ b) → a.length ≤ b.length
  | [], _, _, _ => by simp
  | x :: a, b, hn, h => by
    have hx := h x (List.mem_cons_self ..)
    have hn := List.nodup_cons.1 hn
    have := nodup_le a (b.erase x) hn.2 fun y hy => (List.mem_erase_of_ne (fun e => hn.1 (by subst e; exact hy))).2 (h y (List.mem_cons_of_mem _ hy))
    rw [List.length_erase_of_mem hx] at this
    have h0 := List.length_pos_of_mem hx
    simp only [List.length_cons]; omega
theorem inc_nodup {l : List ByteArray} (h : IncTo l l.length) : l.Nodup := by
  refine List.pairwise_iff_getElem.2 fun i j hi hj hij e => ?_
  have key : ∀ d i, (hd : i + d + 1 < l.length) → Op.bytesLess l[i].toList l[i + d + 1].toList = true := by
    intro d
    induction d with
    | zero => intro i hd; exact h i (by omega) hd
    | succ d ih => intro i hd; exact bl_trans _ _ _ (ih i (by omega)) (h (i + d + 1) (by omega) hd)
  obtain ⟨d, rfl⟩ : ∃ d, j = i + d + 1 := ⟨j - i - 1, by omega⟩
  have := key d i hj
  rw [← e] at this
  rcases bl_tri l[i].toList l[i].toList with ⟨-, h2, -, -⟩ | ⟨h1, -⟩ | ⟨h1, -⟩
  · rw [h2] at this; cases this
  · rw [h1] at this; cases this
  · rw [h1] at this; cases this
/-- Sizes of a valid stem. -/
structure StmS (s : StemD) : Prop where
  w : 2 ≤ s.word.size ∧ s.word.size ≤ 12
  u : s.uses.length ≤ 12
  n : ∀ x ∈ s.uses, 1 ≤ x.size ∧ x.size ≤ 12
structure GraS (g : GraD) : Prop where
  a : g.affixes.length ≤ 12
  s : g.stems.length ≤ 30
  afs : ∀ j (h : j < g.affixes.length), AffS g.affixes[j]
  sts : ∀ j (h : j < g.stems.length), StmS g.stems[j]
theorem graS {g : GraD} (h : graB g = true) : GraS g := by
  have h : GraOk g := by
    by_cases h2 : GraOk g
    · exact h2
    · rw [graB_no h2] at h; cases h
  have has : ∀ j (h : j < g.affixes.length), AffS g.affixes[j] := fun j hj => affB_sizes (h.1 j hj).1
  refine ⟨h.2.2.1, h.2.2.2, has, fun j hj => ?_⟩
  have hs := h.2.1.1 j hj
  simp only [stemB, Bool.and_eq_true, List.all_eq_true] at hs
  obtain ⟨⟨h1, h2⟩, h3⟩ := hs
  have hmem : ∀ x ∈ g.stems[j].uses, x ∈ g.affixes.map (·.name) := fun x hx => by
    obtain ⟨a, ha, he⟩ := List.any_eq_true.1 (h1 x hx)
    exact List.mem_map.2 ⟨a, ha, by simpa using he⟩
  refine ⟨?_, ?_, fun x hx => ?_⟩
  · simp only [isLong, isWord, inI, Bool.and_eq_true, decide_eq_true_eq] at h3; omega
  · have := nodup_le _ _ (inc_nodup ((incB_iff _).1 h2)) hmem
    rw [List.length_map] at this
    have := h.2.2.1; omega
  · obtain ⟨a, ha, rfl⟩ := List.mem_map.1 (hmem x hx)
    obtain ⟨i, hi, rfl⟩ := List.getElem_of_mem ha
    exact (has i hi).n
theorem usesT_le {l : List ByteArray} (h : ∀ x ∈ l, x.size ≤ 12) : (usesT l).length ≤ l.length * 13 :=
  flat_bound _ 13 l fun x hx => by have := h x hx; simp; omega
theorem stmT_le {s : StemD} (h : StmS s) : (stmT s).length ≤ 180 := by
  have h1 := usesT_le fun x hx => (h.n x hx).2
  have h2 := h.w
  have h3 := h.u
  simp [stmT]; omega
theorem affs_le {g : GraD} (h : GraS g) (j : Nat) : ((g.affixes.take j).flatMap affT).length ≤ 576 := by
  have := flat_bound affT 48 (g.affixes.take j) fun x hx => by
    obtain ⟨i, hi, rfl⟩ := List.getElem_of_mem hx
    rw [List.getElem_take]; exact affT_le (h.afs i _)
  have h2 := h.a
  rw [List.length_take] at this
  omega
theorem stms_le {g : GraD} (h : GraS g) (j : Nat) : ((g.stems.take j).flatMap stmT).length ≤ 5400 := by
  have := flat_bound stmT 180 (g.stems.take j) fun x hx => by
    obtain ⟨i, hi, rfl⟩ := List.getElem_of_mem hx
    rw [List.getElem_take]; exact stmT_le (h.sts i _)
  have h2 := h.s
  rw [List.length_take] at this
  omega
theorem gtV_le (g : GraD) : (gtV g).size ≤ 6000 := by
  cases h : graB g
  · rw [gtV_no h]; decide
  · rw [gtV_yes h]
    have h1 := affs_le (graS h) g.affixes.length
    have h2 := stms_le (graS h) g.stems.length
    rw [flat_all] at h1 h2
    show (textG g).toArray.size ≤ _
    simp only [List.size_toArray, textG, List.length_append]; omega
/-- The words of a line of an affix, of a stem. -/
def affW (x : AffD) : List ByteArray := [⟨#[97, 102, 102, 105, 120]⟩, x.name, sideB x.front, dashB x.cond, dashB x.strip, dashB x.add]
def stmW (s : StemD) : List ByteArray := [⟨#[115, 116, 101, 109]⟩, s.word] ++ s.uses
theorem join_affW (x : AffD) : Lib.join ((affW x).map (·.data.toList)) [32] ++ [10] = affT x := by
  simp only [affW, List.map_cons, List.map_nil, Lib.join_cons, Lib.joinTail, affT]
  simp
theorem join_stmW (s : StemD) : Lib.join ((stmW s).map (·.data.toList)) [32] ++ [10] = stmT s := by
  simp only [stmW, List.cons_append, List.nil_append, List.map_cons, Lib.join_cons, Lib.joinTail, stmT, usesT]
  simp [List.flatMap]
  rfl
theorem joinA_le {x : AffD} (h : AffS x) : (Lib.join ((affW x).map (·.data.toList)) [32]).length ≤ 48 := by
  have h1 := affT_le h
  rw [← join_affW, List.length_append] at h1
  omega
theorem joinS_le {s : StemD} (h : StmS s) : (Lib.join ((stmW s).map (·.data.toList)) [32]).length ≤ 180 := by
  have h1 := stmT_le h
  rw [← join_stmW, List.length_append] at h1
  omega
end Go.Proofs.YtndfhmphlomeiaaGreatDoor
/- ReadGrammar, plainly: what the reference and the program make of the lines of a grammar's text. No program is walked. -/
namespace Go.Proofs.YtndfhmphlomeiaaGreatDoor
open Go.RowKit
/-- A part of a word out of what is written. -/
def unB (s : ByteArray) : ByteArray := if s.toList == [45] then ⟨#[]⟩ else s
def emptyG : GraD := ⟨[], []⟩
def atW (ws : List ByteArray) (i : Nat) : ByteArray := (ws[i]?).getD ⟨#[]⟩
theorem atW_at {ws : List ByteArray} {i : Nat} (h : i < ws.length) : atW ws i = ws[i] := by simp [atW, h]
def isB (s : ByteArray) (l : List UInt8) : Bool := s.toList == l
def affKey : List UInt8 := [97, 102, 102, 105, 120]
def stmKey : List UInt8 := [115, 116, 101, 109]
def frontKey : List UInt8 := [102, 114, 111, 110, 116]
def backKey : List UInt8 := [98, 97, 99, 107]
def affOfW (ws : List ByteArray) : AffD := ⟨atW ws 1, isB (atW ws 2) frontKey, unB (atW ws 3), unB (atW ws 4), unB (atW ws 5)⟩
/-- The reference's step: a grammar, the words of a line. -/
def specLine (g : GraD) (ws : List ByteArray) : Option GraD :=
  if isB (atW ws 0) affKey = true ∧ ws.length = 6 ∧ g.stems.length = 0 then
    (if (isB (atW ws 3) [] = false ∧ isB (atW ws 4) [] = false ∧ isB (atW ws 5) [] = false) ∧ (isB (atW ws 2) frontKey = true ∨ isB (atW ws 2) backKey = true) then some ⟨g.affixes ++ [affOfW ws], g.stems⟩ else none)
  else if isB (atW ws 0) stmKey = true ∧ 1 < ws.length then some ⟨g.affixes, g.stems ++ [⟨atW ws 1, ws.drop 2⟩]⟩
  else none
/-- The program's. -/
def implLine (g : GraD) (ws : List ByteArray) : Option GraD :=
  if isB (atW ws 0) affKey = true ∧ ws.length = 6 then some ⟨g.affixes ++ [affOfW ws], g.stems⟩
  else if isB (atW ws 0) stmKey = true ∧ 2 ≤ ws.length then some ⟨g.affixes, g.stems ++ [⟨atW ws 1, ws.drop 2⟩]⟩
  else none
def foldG (f : GraD → List ByteArray → Option GraD) (g : GraD) : List ByteArray → Option GraD
  | [] => some g
  | s :: r => match f g (splitW 32 s) with | none => none | some g' => foldG f g' r
theorem foldG_snoc (f : GraD → List ByteArray → Option GraD) : ∀ (l : List ByteArray) (g : GraD) (s : ByteArray), foldG f g (l ++ [s]) = match foldG f g l with | none => none | some g' => f g' (splitW 32 s)
  | [], g, s => by
    simp only [List.nil_append, foldG]
    cases f g (splitW 32 s) <;> rfl
  | a :: l, g, s => by
    simp only [List.cons_append, foldG]
    cases f g (splitW 32 a) with
    | none => rfl
    | some g2 => exact foldG_snoc f l g2 s
theorem foldG_take {f : GraD → List ByteArray → Option GraD} {l : List ByteArray} {j : Nat} (h : j < l.length) {g g' : GraD} (hg : foldG f g (l.take j) = some g') : foldG f g (l.take (j + 1)) = f g' (splitW 32 l[j]) := by
  rw [List.take_succ_eq_append_getElem h, foldG_snoc, hg]
theorem foldG_none {f : GraD → List ByteArray → Option GraD} : ∀ {l r : List ByteArray} {g : GraD}, foldG f g l = none → foldG f g (l ++ r) = none
  | [], r, g, h => by simp [foldG] at h
  | a :: l, r, g, h => by
    simp only [List.cons_append, foldG] at h ⊢
    cases hf : f g (splitW 32 a) with
    | none => rfl
    | some g2 => rw [hf] at h; exact foldG_none h
theorem foldG_stop {f : GraD → List ByteArray → Option GraD} {l : List ByteArray} {j : Nat} {g : GraD} (h : foldG f g (l.take j) = none) : foldG f g l = none := by
  rw [← List.take_append_drop j l]; exact foldG_none h
theorem spec_impl {g g' : GraD} {ws : List ByteArray} (h : specLine g ws = some g') : implLine g ws = some g' := by
  unfold specLine at h
  unfold implLine
  split at h
  · rename_i h1
    rw [if_pos ⟨h1.1, h1.2.1⟩]
    split at h
    · exact h
    · cases h
  · split at h
    · rename_i h1 h2
      have hk : ¬ (isB (atW ws 0) affKey = true) := by
        intro e
        have e1 : (atW ws 0).toList = affKey := by simpa [isB] using e
        have e2 : (atW ws 0).toList = stmKey := by simpa [isB] using h2.1
        rw [e1] at e2
        exact absurd e2 (by decide)
      rw [if_neg fun e => hk e.1, if_pos ⟨h2.1, by omega⟩]
      exact h
    · cases h
theorem foldG_spec : ∀ (l : List ByteArray) (g g' : GraD), foldG specLine g l = some g' → foldG implLine g l = some g'
  | [], _, _, h => h
  | a :: l, g, g', h => by
    simp only [foldG] at h ⊢
    cases hf : specLine g (splitW 32 a) with
    | none => rw [hf] at h; cases h
    | some g2 => rw [hf] at h; rw [spec_impl hf]; exact foldG_spec l g2 g' h
theorem join_split (c : UInt8) : ∀ l : List UInt8, Lib.join (splitC c l) [c] = l
  | [] => by simp [splitC, Lib.join_one]
  | b :: l => by
    have ih := join_split c l
    have hne := splitC_ne c l
    rw [splitC]
    cases hs : splitC c l with
    | nil => exact absurd hs hne
    | cons p ps =>
      rw [hs, Lib.join_cons] at ih
      by_cases hb : b = c
      · rw [if_pos hb, Lib.join_cons, hb]
        simp only [Lib.joinTail, List.map_cons, List.flatten_cons, List.nil_append, List.singleton_append] at ih ⊢
        rw [List.cons_append, ih]
      · rw [if_neg hb]
        simp only []
        rw [Lib.join_cons, List.cons_append, ih]
theorem join_splitW (c : UInt8) (s : ByteArray) : Lib.join ((splitW c s).map (·.data.toList)) [c] = s.data.toList := by
  have : (splitW c s).map (·.data.toList) = splitC c s.data.toList := by
    unfold splitW; rw [List.map_map]
    conv => rhs; rw [← List.map_id (splitC c s.data.toList)]
    exact List.map_congr_left fun l _ => baL_data l
  rw [this]; exact join_split c _
theorem toL (s : ByteArray) : s.toList = s.data.toList := Lib.toList_data s
theorem isB_eq {s : ByteArray} {l : List UInt8} (h : isB s l = true) : s = baL l := by
  have : s.data.toList = l := by rw [← toL]; simpa [isB] using h
  rw [← this]; rfl
theorem isB_ne {s : ByteArray} {l : List UInt8} (h : isB s l = false) : s.data.toList ≠ l := by
  intro e
  rw [← toL] at e
  simp [isB, e] at h
theorem dash_un {s : ByteArray} (h : isB s [] = false) : dashB (unB s) = s := by
  unfold unB
  split
  · rename_i h1
    have : s = ⟨#[45]⟩ := isB_eq (l := [45]) h1
    rw [this]; decide +kernel
  · unfold dashB
    rw [if_neg]
    intro e
    have := isB_ne h
    rw [toL, List.isEmpty_iff] at e
    exact this e
theorem un_dash {s : ByteArray} (h : s.data.toList ≠ [45]) : unB (dashB s) = s := by
  unfold dashB
  split
  · rename_i h1
    rw [toL, List.isEmpty_iff] at h1
    have : s = ⟨#[]⟩ := by rw [← baL_of s, h1]; rfl
    rw [this]; decide +kernel
  · unfold unB
    rw [if_neg]
    intro e
    rw [toL] at e
    exact h (by simpa using e)
theorem six_words {ws : List ByteArray} (h : ws.length = 6) : ws = [atW ws 0, atW ws 1, atW ws 2, atW ws 3, atW ws 4, atW ws 5] := by
  match ws, h with
  | [a, b, c, d, e, f], _ => rfl
theorem two_words {ws : List ByteArray} (h : 1 < ws.length) : ws = [atW ws 0, atW ws 1] ++ ws.drop 2 := by
  match ws, h with
  | a :: b :: r, _ => rfl
theorem textG_affix (g : GraD) (x : AffD) (h : g.stems.length = 0) : textG ⟨g.affixes ++ [x], g.stems⟩ = textG g ++ affT x := by
  have : g.stems = [] := List.length_eq_zero_iff.1 h
  simp [textG, this]
theorem textG_stem (g : GraD) (s : StemD) : textG ⟨g.affixes, g.stems ++ [s]⟩ = textG g ++ stmT s := by simp [textG]
/-- What the reference has read it would write so. -/
theorem specLine_text {g g' : GraD} {s : ByteArray} (h : specLine g (splitW 32 s) = some g') : textG g' = textG g ++ (s.data.toList ++ [10]) := by
  have hj := join_splitW 32 s
  generalize hw : splitW 32 s = ws at h hj
  unfold specLine at h
  split at h
  · rename_i h1
    obtain ⟨h1, h2, h3⟩ := h1
    split at h
    · rename_i h4
      obtain ⟨⟨h5, h6, h7⟩, h8⟩ := h4
      cases h
      rw [textG_affix g _ h3, ← join_affW, ← hj]
      have e0 : atW ws 0 = ⟨#[97, 102, 102, 105, 120]⟩ := isB_eq h1
      have e2 : sideB (isB (atW ws 2) frontKey) = atW ws 2 := by
        cases hf : isB (atW ws 2) frontKey
        · rw [hf] at h8
          have := isB_eq (h8.resolve_left (by simp))
          rw [this]; rfl
        · rw [isB_eq hf]; rfl
      have e : affW (affOfW ws) = ws := by
        conv => rhs; rw [six_words h2, e0]
        simp only [affW, affOfW, e2, dash_un h5, dash_un h6, dash_un h7]
      rw [e]
    · cases h
  · split at h
    · rename_i h2
      obtain ⟨h1, h2⟩ := h2
      cases h
      rw [textG_stem, ← join_stmW, ← hj]
      have e0 : atW ws 0 = ⟨#[115, 116, 101, 109]⟩ := isB_eq h1
      have e : stmW ⟨atW ws 1, ws.drop 2⟩ = ws := by
        conv => rhs; rw [two_words h2, e0]
        rfl
      rw [e]
    · cases h
theorem foldG_text : ∀ (l : List ByteArray) (g g' : GraD), foldG specLine g l = some g' → textG g' = textG g ++ l.flatMap fun s => s.data.toList ++ [10]
  | [], g, g', h => by simp only [foldG] at h; cases h; simp
  | a :: l, g, g', h => by
    simp only [foldG] at h
    cases hf : specLine g (splitW 32 a) with
    | none => rw [hf] at h; cases h
    | some g2 =>
      rw [hf] at h
      rw [foldG_text l g2 g' h, specLine_text hf, List.flatMap_cons]
      simp
/-- No blank, no newline. -/
def plainW (s : ByteArray) : Prop := ∀ b ∈ s.data.toList, b ≠ 32 ∧ b ≠ 10 ∧ b ≠ 45
def plainL (s : ByteArray) : Prop := ∀ b ∈ s.data.toList, b ≠ 32 ∧ b ≠ 10
theorem name_plain {s : ByteArray} (h : isName s = true) : plainL s := by
  intro b hb
  simp only [isName, Bool.and_eq_true] at h
  have := List.all_eq_true.1 h.1.1 b hb
  refine ⟨?_, ?_⟩ <;> (rintro rfl; revert this; decide)
theorem letters_plain {s : ByteArray} {d : Bool} (h : lettersB s d = true) : plainW s := by
  intro b hb
  simp only [lettersB, Bool.and_eq_true] at h
  have := List.all_eq_true.1 h.1 b hb
  refine ⟨?_, ?_, ?_⟩ <;> (rintro rfl; revert this; cases d <;> decide)
theorem isLongW {s : ByteArray} (h : isLong s = true) : isWord s = true := by
  simp only [isLong, Bool.and_eq_true] at h; exact h.1
theorem word_plain {s : ByteArray} (h : isLong s = true) : plainW s := by
  intro b hb
  have h2 := isLongW h
  simp only [isWord, Bool.and_eq_true] at h2
  have := List.all_eq_true.1 h2.1 b hb
  refine ⟨?_, ?_, ?_⟩ <;> (rintro rfl; revert this; decide)
theorem dash_plain {s : ByteArray} (h : plainW s) : plainL (dashB s) := by
  unfold dashB
  split
  · intro b hb
    have : b = 45 := by simpa using hb
    subst this; decide
  · exact fun b hb => ⟨(h b hb).1, (h b hb).2.1⟩
theorem side_plain (f : Bool) : plainL (sideB f) := by
  intro b hb
  cases f <;> (simp [sideB] at hb; rcases hb with rfl | rfl | rfl | rfl | rfl <;> decide)
theorem splitC_join (c : UInt8) : ∀ (p : List UInt8) (ps : List (List UInt8)), (∀ w ∈ p :: ps, ∀ b ∈ w, b ≠ c) → splitC c (Lib.join (p :: ps) [c]) = p :: ps
  | p, [], h => by rw [Lib.join_one, splitC_none c p (h p (by simp))]
  | p, q :: ps, h => by
    have ih := splitC_join c q ps fun w hw => h w (List.mem_cons_of_mem _ hw)
    rw [Lib.join_cons] at ih ⊢
    simp only [Lib.joinTail, List.map_cons, List.flatten_cons, List.singleton_append] at ih ⊢
    rw [List.cons_append, splitC_app c p _ (h p (by simp)), ih]
theorem splitW_join (w : ByteArray) (ws : List ByteArray) (h : ∀ x ∈ w :: ws, plainL x) : splitW 32 (baL (Lib.join ((w :: ws).map (·.data.toList)) [32])) = w :: ws := by
  unfold splitW
  rw [baL_data, List.map_cons, splitC_join 32]
  · show List.map baL ((w :: ws).map (·.data.toList)) = w :: ws
    rw [List.map_map]
    conv => rhs; rw [← List.map_id (w :: ws)]
    exact List.map_congr_left fun x _ => baL_of x
  · intro l hl b hb
    obtain ⟨x, hx, rfl⟩ := List.mem_map.1 (show l ∈ (w :: ws).map (·.data.toList) from hl)
    exact (h x hx b hb).1
theorem split_lines (c : UInt8) : ∀ (ws : List (List UInt8)), (∀ w ∈ ws, ∀ b ∈ w, b ≠ c) → splitC c (ws.flatMap fun w => w ++ [c]) = ws ++ [[]]
  | [], _ => rfl
  | w :: ws, h => by
    rw [List.flatMap_cons, List.append_assoc, List.singleton_append, splitC_app c w _ (h w (List.mem_cons_self ..)), split_lines c ws fun w' hw => h w' (List.mem_cons_of_mem _ hw)]
    rfl
def affLine (x : AffD) : ByteArray := baL (Lib.join ((affW x).map (·.data.toList)) [32])
def stmLine (s : StemD) : ByteArray := baL (Lib.join ((stmW s).map (·.data.toList)) [32])
def linesG (g : GraD) : List ByteArray := g.affixes.map affLine ++ g.stems.map stmLine
theorem textG_lines (g : GraD) : textG g = (linesG g).flatMap fun s => s.data.toList ++ [10] := by
  unfold textG linesG
  rw [List.flatMap_append]
  congr 1
  · rw [List.flatMap_map]
    exact congrArg (fun f => List.flatMap f g.affixes) (funext fun x => by rw [affLine, baL_data, join_affW])
  · rw [List.flatMap_map]
    exact congrArg (fun f => List.flatMap f g.stems) (funext fun x => by rw [stmLine, baL_data, join_stmW])
theorem join_no (c : UInt8) (hc : c ≠ 32) (ws : List ByteArray) (h : ∀ x ∈ ws, ∀ b ∈ x.data.toList, b ≠ c) : ∀ b ∈ Lib.join (ws.map (·.data.toList)) [32], b ≠ c := by
  cases ws with
  | nil => simp [Lib.join_nil]
  | cons w ws =>
    intro b hb
    rw [List.map_cons, Lib.join_cons] at hb
    rcases List.mem_append.1 hb with hb | hb
    · exact h w (by simp) b hb
    · simp only [Lib.joinTail, List.mem_flatten, List.mem_map] at hb
      obtain ⟨l, ⟨m, ⟨x, hx, rfl⟩, rfl⟩, hb⟩ := hb
      rcases List.mem_append.1 hb with hb | hb
      · rw [List.mem_singleton.1 hb]; exact Ne.symm hc
      · exact h x (by simp [hx]) b hb
theorem affW_plain {x : AffD} (h : affB x = true) : ∀ y ∈ affW x, plainL y := by
  obtain ⟨h1, h2, h3, h4, -⟩ := affB_parts h
  intro y hy
  simp only [affW, List.mem_cons, List.not_mem_nil, or_false] at hy
  rcases hy with rfl | rfl | rfl | rfl | rfl | rfl
  · intro b hb; simp at hb; rcases hb with rfl | rfl | rfl | rfl | rfl <;> decide
  · exact name_plain h1
  · exact side_plain _
  · exact dash_plain (letters_plain h2)
  · exact dash_plain (letters_plain h3)
  · exact dash_plain (letters_plain h4)
structure GraT (g : GraD) : Prop where
  a : ∀ x ∈ g.affixes, affB x = true
  s : ∀ s ∈ g.stems, isLong s.word = true ∧ ∀ u ∈ s.uses, isName u = true
theorem graB_ok {g : GraD} (h : graB g = true) : GraOk g := by
  by_cases h2 : GraOk g
  · exact h2
  · rw [graB_no h2] at h; cases h
theorem graT {g : GraD} (h : graB g = true) : GraT g := by
  have h := graB_ok h
  refine ⟨fun x hx => ?_, fun s hs => ?_⟩
  · obtain ⟨i, hi, rfl⟩ := List.getElem_of_mem hx
    exact (h.1 i hi).1
  · obtain ⟨i, hi, rfl⟩ := List.getElem_of_mem hs
    have hs := h.2.1.1 i hi
    simp only [stemB, Bool.and_eq_true, List.all_eq_true] at hs
    obtain ⟨⟨h1, h2⟩, h3⟩ := hs
    refine ⟨h3, fun u hu => ?_⟩
    obtain ⟨a, ha, he⟩ := List.any_eq_true.1 (h1 u hu)
    have he : a.name = u := by simpa using he
    obtain ⟨k, hk, rfl⟩ := List.getElem_of_mem ha
    rw [← he]
    exact (affB_parts (h.1 k hk).1).1
theorem stmW_plain {s : StemD} (h : isLong s.word = true ∧ ∀ u ∈ s.uses, isName u = true) : ∀ y ∈ stmW s, plainL y := by
  intro y hy
  simp only [stmW, List.cons_append, List.nil_append, List.mem_cons] at hy
  rcases hy with rfl | rfl | hy
  · intro b hb; simp at hb; rcases hb with rfl | rfl | rfl | rfl <;> decide
  · exact fun b hb => ⟨(word_plain h.1 b hb).1, (word_plain h.1 b hb).2.1⟩
  · exact name_plain (h.2 y hy)
theorem linesG_plain {g : GraD} (h : GraT g) : ∀ s ∈ linesG g, ∀ b ∈ s.data.toList, b ≠ 10 := by
  intro s hs
  rcases List.mem_append.1 hs with hs | hs
  · obtain ⟨x, hx, rfl⟩ := List.mem_map.1 hs
    rw [affLine, baL_data]
    exact join_no 10 (by decide) _ fun y hy b hb => (affW_plain (h.a x hx) y hy b hb).2
  · obtain ⟨x, hx, rfl⟩ := List.mem_map.1 hs
    rw [stmLine, baL_data]
    exact join_no 10 (by decide) _ fun y hy b hb => (stmW_plain (h.s x hx) y hy b hb).2
theorem split_textG {g : GraD} (h : GraT g) : splitW 10 (baL (textG g)) = linesG g ++ [⟨#[]⟩] := by
  unfold splitW
  rw [baL_data, textG_lines]
  have : ((linesG g).flatMap fun s => s.data.toList ++ [10]) = ((linesG g).map (·.data.toList)).flatMap fun w => w ++ [10] := by rw [List.flatMap_map]
  rw [this, split_lines 10]
  · rw [List.map_append, List.map_map]
    congr 1
    conv => rhs; rw [← List.map_id (linesG g)]
    exact List.map_congr_left fun x _ => baL_of x
  · intro w hw
    obtain ⟨s, hs, rfl⟩ := List.mem_map.1 hw
    exact linesG_plain h s hs
theorem specLine_aff {x : AffD} (h : affB x = true) (l : List AffD) : specLine ⟨l, []⟩ (splitW 32 (affLine x)) = some ⟨l ++ [x], []⟩ := by
  have hs : splitW 32 (affLine x) = affW x := splitW_join _ _ (affW_plain h)
  obtain ⟨h1, h2, h3, h4, -⟩ := affB_parts h
  have hd : ∀ s : ByteArray, isB (dashB s) [] = false := fun s => by
    cases hq : isB (dashB s) [] with
    | false => rfl
    | true =>
      have := isB_eq hq
      unfold dashB at this
      split at this
      · exact absurd this (by decide)
      · rename_i h0
        rw [this] at h0
        exact absurd (by decide +kernel) h0
  have hu : ∀ s : ByteArray, plainW s → unB (dashB s) = s := fun s hp => un_dash fun e => by
    have := hp 45 (by rw [e]; simp)
    exact this.2.2 rfl
  have hf : isB (sideB x.front) frontKey = x.front := by cases x.front <;> decide +kernel
  have ho : isB (sideB x.front) frontKey = true ∨ isB (sideB x.front) backKey = true := by cases x.front <;> decide +kernel
  rw [hs]
  unfold specLine
  rw [if_pos ⟨show isB ⟨#[97, 102, 102, 105, 120]⟩ affKey = true by decide +kernel, rfl, rfl⟩]
  have e3 : atW (affW x) 3 = dashB x.cond := rfl
  have e4 : atW (affW x) 4 = dashB x.strip := rfl
  have e5 : atW (affW x) 5 = dashB x.add := rfl
  have e2 : atW (affW x) 2 = sideB x.front := rfl
  have e1 : atW (affW x) 1 = x.name := rfl
  rw [if_pos ⟨⟨by rw [e3]; exact hd _, by rw [e4]; exact hd _, by rw [e5]; exact hd _⟩, by rw [e2]; exact ho⟩]
  unfold affOfW
  rw [e1, e2, e3, e4, e5, hf, hu _ (letters_plain h2), hu _ (letters_plain h3), hu _ (letters_plain h4)]
theorem specLine_stm {s : StemD} (h : isLong s.word = true ∧ ∀ u ∈ s.uses, isName u = true) (g : GraD) : specLine g (splitW 32 (stmLine s)) = some ⟨g.affixes, g.stems ++ [s]⟩ := by
  have hs : splitW 32 (stmLine s) = stmW s := splitW_join _ _ (stmW_plain h)
  rw [hs]
  unfold specLine
  rw [if_neg (fun e => absurd e.1 (by
    have : atW (stmW s) 0 = ⟨#[115, 116, 101, 109]⟩ := rfl
    rw [this]; decide +kernel)), if_pos ⟨by
      have : atW (stmW s) 0 = ⟨#[115, 116, 101, 109]⟩ := rfl
      rw [this]; decide +kernel, by simp [stmW]⟩]
  rfl
theorem fold_affs : ∀ (l r : List AffD) (ls : List ByteArray), (∀ x ∈ l, affB x = true) → foldG specLine ⟨r, []⟩ (l.map affLine ++ ls) = foldG specLine ⟨r ++ l, []⟩ ls
  | [], r, ls, _ => by simp
  | x :: l, r, ls, h => by
    have := fold_affs l (r ++ [x]) ls fun y hy => h y (List.mem_cons_of_mem _ hy)
    rw [List.append_assoc, List.singleton_append] at this
    rw [List.map_cons, List.cons_append, foldG, specLine_aff (h x (List.mem_cons_self ..))]
    exact this
theorem fold_stms : ∀ (l : List StemD) (g : GraD), (∀ s ∈ l, isLong s.word = true ∧ ∀ u ∈ s.uses, isName u = true) → foldG specLine g (l.map stmLine) = some ⟨g.affixes, g.stems ++ l⟩
  | [], g, _ => by simp [foldG]
  | x :: l, g, h => by
    have := fold_stms l ⟨g.affixes, g.stems ++ [x]⟩ fun y hy => h y (List.mem_cons_of_mem _ hy)
    rw [List.append_assoc, List.singleton_append] at this
    rw [List.map_cons, foldG, specLine_stm (h x (List.mem_cons_self ..))]
    exact this
/-- A valid grammar's text is read back. -/
theorem spec_back {g : GraD} (h : GraT g) : foldG specLine emptyG (linesG g) = some g := by
  unfold linesG emptyG
  rw [fold_affs _ _ _ h.a, fold_stms _ _ h.s]
  simp
/-- The valid grammar that a text is of. -/
noncomputable def readV (s : ByteArray) : Option GraD := open Classical in if h : ∃ g, graB g = true ∧ baL (textG g) = s then some h.choose else none
theorem text_inj {g g' : GraD} (h : graB g = true) (h' : graB g' = true) (e : baL (textG g) = baL (textG g')) : g = g' := by
  have h1 := split_textG (graT h)
  have h2 := split_textG (graT h')
  rw [e, h2] at h1
  have h3 := List.append_cancel_right h1
  have h4 := spec_back (graT h)
  rw [← h3, spec_back (graT h')] at h4
  exact (Option.some.inj h4).symm
theorem readV_some {g : GraD} (h : graB g = true) : readV (baL (textG g)) = some g := by
  have hx : ∃ g', graB g' = true ∧ baL (textG g') = baL (textG g) := ⟨g, h, rfl⟩
  unfold readV
  rw [dif_pos hx, text_inj hx.choose_spec.1 h hx.choose_spec.2]
theorem readV_none {s : ByteArray} (h : ∀ g, graB g = true → baL (textG g) ≠ s) : readV s = none := by
  unfold readV; rw [dif_neg]; rintro ⟨g, H, e⟩; exact h g H e
theorem readV_is {s : ByteArray} {g : GraD} (h : graB g = true) (e : baL (textG g) = s) : readV s = some g := e ▸ readV_some h
theorem linesG_len {g : GraD} (h : graB g = true) : (linesG g).length ≤ 42 := by
  have := graB_ok h
  have h1 := this.2.2.1
  have h2 := this.2.2.2
  simp [linesG]; omega
/-- The reference: where its lines are in order, the fold; the answer is readV. -/
theorem spec_some {s : ByteArray} {ps : List ByteArray} {g : GraD} (h : splitW 10 s = ps ++ [⟨#[]⟩]) (hf : foldG specLine emptyG ps = some g) (hg : graB g = true) : readV s = some g := by
  refine readV_is hg ?_
  rw [foldG_text ps _ _ hf]
  have e : (textG emptyG ++ ps.flatMap fun s => s.data.toList ++ [10]) = s.data.toList := by
    have := join_splitW 10 s
    rw [← this, h]
    show [] ++ _ = _
    rw [List.nil_append]
    clear this h hf
    induction ps with
    | nil => simp [Lib.join_one]
    | cons p ps ih =>
      rw [List.flatMap_cons, ih, List.cons_append, List.map_cons, Lib.join_cons]
      cases ps with
      | nil => simp [Lib.join_one, Lib.joinTail]
      | cons q ps => rw [List.cons_append, List.map_cons, Lib.join_cons]; simp [Lib.joinTail]
  rw [e, baL_of]
theorem spec_no {s : ByteArray} {ps : List ByteArray} {z : ByteArray} (h : splitW 10 s = ps ++ [z]) (hn : z ≠ ⟨#[]⟩ ∨ 42 < ps.length ∨ foldG specLine emptyG ps = none ∨ ∃ g, foldG specLine emptyG ps = some g ∧ graB g = false) : readV s = none := by
  refine readV_none fun g hg e => ?_
  have h1 := split_textG (graT hg)
  rw [e, h] at h1
  have h2 := List.append_inj_left' h1 rfl
  have h3 : z = ⟨#[]⟩ := by simpa using List.append_inj_right' h1 rfl
  have hb := spec_back (graT hg)
  rw [← h2] at hb
  rcases hn with hn | hn | hn | ⟨g', hn, hn2⟩
  · exact hn h3
  · have := linesG_len hg
    rw [← h2] at this; omega
  · rw [hn] at hb; cases hb
  · rw [hn] at hb; cases hb; rw [hg] at hn2; cases hn2
/-- The program: its lines are linesL. -/
theorem impl_no {s : ByteArray} (hn : linesB s = false ∨ 42 < (linesL s).length ∨ foldG implLine emptyG (linesL s) = none ∨ ∃ g, foldG implLine emptyG (linesL s) = some g ∧ (graB g = false ∨ baL (textG g) ≠ s)) : readV s = none := by
  refine readV_none fun g hg e => ?_
  have h1 := split_textG (graT hg)
  rw [e] at h1
  have hb : linesB s = true := by
    cases hq : linesB s with
    | true => rfl
    | false =>
      unfold linesB at hq
      split at hq
      · cases hq
      · rename_i h0
        exact absurd (by rw [h1]; simp; rfl) (splitW_last hq (by omega))
  have h2 := (lines_rl s).2 hb
  rw [h1, List.dropLast_concat] at h2
  have hbk := foldG_spec _ _ _ (spec_back (graT hg))
  rw [← h2] at hbk
  rcases hn with hn | hn | hn | ⟨g', hn, hn2⟩
  · rw [hn] at hb; cases hb
  · have := linesG_len hg
    rw [← h2] at this; omega
  · rw [hn] at hbk; cases hbk
  · rw [hn] at hbk; cases hbk
    rcases hn2 with hn2 | hn2
    · rw [hg] at hn2; cases hn2
    · exact hn2 e
end Go.Proofs.YtndfhmphlomeiaaGreatDoor
/- A grammar that grows in a box of the call's own: an affix, a stem more. Condition: Go's own bound on the bytes of a slice. -/
namespace Go.Proofs.YtndfhmphlomeiaaGreatDoor
open Go.RowKit
theorem infoAffS : (Tryz.prog.info? 51).map (fun i => (i.zero, i.size, i.bytes)) = some (some (.agg #[.string ⟨#[]⟩, .bool false, .string ⟨#[]⟩, .string ⟨#[]⟩, .string ⟨#[]⟩]), 5, 72) := by kernel_rfl
theorem infoStmS : (Tryz.prog.info? 59).map (fun i => (i.zero, i.size, i.bytes)) = some (some (.agg #[.string ⟨#[]⟩, .slice none 0 0]), 2, 40) := by kernel_rfl
/-- The box gb holds the two slices; all blocks of the grammar are apart, at B or above. -/
structure GB (w : World) (B gb : Nat) (v1 v2 : Value) (g : GraD) (q : Nat → Nat) (us : List Value) : Prop where
  box : w.heap[gb]? = some (.cells #[v1, v2] 27 (0, 0))
  gbB : gb < B
  aff : w.ownsRow B 51 5 v1 g.affixes.length (g.affixes.flatMap affL)
  stm : w.ownsRow B 59 2 v2 g.stems.length ((g.stems.zip us).flatMap stemL)
  len : us.length = g.stems.length
  uses : ∀ j (h : j < g.stems.length) (h' : j < us.length), StrsW w (q j) (q j + 1) us[j] g.stems[j].uses
  low : ∀ j, j < g.stems.length → B ≤ q j ∧ q j < w.heap.size
  inj : ∀ i j, i < g.stems.length → j < g.stems.length → q i = q j → i = j
  ap : ∀ k, v1.ownBlock = some k → v2.ownBlock ≠ some k
  apq : ∀ j, j < g.stems.length → v1.ownBlock ≠ some (q j) ∧ v2.ownBlock ≠ some (q j)
  lima : ∀ x ∈ g.affixes, AffLim x maxLen
  lims : ∀ s ∈ g.stems, s.word.size ≤ maxLen
theorem own_below {w w' : World} {B e sz : Nat} {v : Value} {n : Nat} {xs : List Value} (h : w.ownsRow B e sz v n xs) (hb : Below w.heap.size w w') : w'.ownsRow B e sz v n xs :=
  World.ownsRow.kept h ⟨hb.os, hb.tape, hb.output, hb.size, fun k hk _ => hb.block k hk⟩ (by cases v.ownBlock <;> simp) (row := none)
theorem GB.below {w w' : World} {B gb v1 v2 g q us} (h : GB w B gb v1 v2 g q us) (hb : Below w.heap.size w w') : GB w' B gb v1 v2 g q us :=
  ⟨(hb.block gb (Array.getElem?_eq_some_iff.1 h.box).1).trans h.box, h.gbB, own_below h.aff hb, own_below h.stm hb, h.len, fun j hj hj' => (h.uses j hj hj').below hb, fun j hj => ⟨(h.low j hj).1, Nat.lt_of_lt_of_le (h.low j hj).2 hb.size⟩, h.inj, h.ap, h.apq, h.lima, h.lims⟩
theorem GB.start {w : World} {B gb : Nat} (hb : w.heap[gb]? = some (.cells #[.slice none 0 0, .slice none 0 0] 27 (0, 0))) (hB : gb < B) : GB w B gb (.slice none 0 0) (.slice none 0 0) emptyG (fun _ => 0) [] :=
  ⟨hb, hB, World.ownsRow_nil _ _ _ _, World.ownsRow_nil _ _ _ _, rfl, fun j h => by simp [emptyG] at h, fun j h => by simp [emptyG] at h, fun i j h => by simp [emptyG] at h, fun k h => by simp [Value.ownBlock] at h, fun j h => by simp [emptyG] at h, by simp [emptyG], by simp [emptyG]⟩
theorem own_shape {w : World} {B e sz : Nat} {v : Value} {n : Nat} {xs : List Value} (h : w.ownsRow B e sz v n xs) : ∃ a cap, v = .slice a n cap ∧ n ≤ cap ∧ cap ≤ maxLen := by
  rcases h.2 with ⟨hv, h0⟩ | ⟨g, cap, cur, hv, _, _, h1, h2, _⟩
  · exact ⟨none, 0, by rw [hv, h0], by omega, by unfold maxLen; omega⟩
  · exact ⟨_, cap, hv, h1, h2⟩
theorem GB.cell0 {w : World} {B gb v1 v2 g q us} (h : GB w B gb v1 v2 g q us) : w.cell? ⟨gb, 0, none⟩ = some v1 ∧ w.frozen? ⟨gb, 0, none⟩ = false := cell_of_heap (i := 0) (v := v1) h.box rfl
theorem GB.cell1 {w : World} {B gb v1 v2 g q us} (h : GB w B gb v1 v2 g q us) : w.cell? ⟨gb, 1, none⟩ = some v2 ∧ w.frozen? ⟨gb, 1, none⟩ = false := cell_of_heap (i := 1) (v := v2) h.box rfl
/-- Blocks below B, but gb, and what lies outside are as they were. -/
structure KeepG (B gb : Nat) (w w' : World) : Prop where
  os : w'.os = w.os
  tape : w'.tape = w.tape
  output : w'.output = w.output
  size : w.heap.size ≤ w'.heap.size
  block : ∀ k, k < B → k ≠ gb → w'.heap[k]? = w.heap[k]?
theorem KeepG.refl (B gb : Nat) (w : World) : KeepG B gb w w := ⟨rfl, rfl, rfl, Nat.le_refl _, fun _ _ _ => rfl⟩
theorem KeepG.trans {B gb : Nat} {a b c : World} (h : KeepG B gb a b) (k : KeepG B gb b c) : KeepG B gb a c :=
  ⟨k.os.trans h.os, k.tape.trans h.tape, k.output.trans h.output, Nat.le_trans h.size k.size, fun i hi hn => (k.block i hi hn).trans (h.block i hi hn)⟩
theorem KeepG.of_below {B gb : Nat} {w w' : World} (h : Below w.heap.size w w') (hB : B ≤ w.heap.size) : KeepG B gb w w' := ⟨h.os, h.tape, h.output, h.size, fun k hk _ => h.block k (by omega)⟩
theorem KeepG.below {B gb C : Nat} {w w' : World} (h : KeepG B gb w w') (hC : C ≤ B) (hg : C ≤ gb) : Below C w w' := ⟨h.os, h.tape, h.output, h.size, fun k hk => h.block k (by omega) (by omega)⟩
theorem KeepG.cell {B gb : Nat} {w w' : World} (h : KeepG B gb w w') {b o : Nat} {u : Value} (hb : b < B) (hn : b ≠ gb) (hc : w.cell? ⟨b, o, none⟩ = some u) : w'.cell? ⟨b, o, none⟩ = some u := by
  rw [← hc]; simp only [World.cell?, h.block b hb hn]
theorem KeepG.strs {B gb lo hi : Nat} {w w' : World} {v : Value} {l : List ByteArray} (h : KeepG B gb w w') (hs : StrsW w lo hi v l) (hh : hi ≤ B) (hg : gb < lo ∨ hi ≤ gb) : StrsW w' lo hi v l := by
  obtain ⟨⟨h1, a, c, e, h2, h3, h4⟩, h5⟩ := hs
  refine ⟨⟨h1, a, c, e, h2, h3, ?_⟩, h5⟩
  rcases h4 with h4 | ⟨g, off, cur, e2, hg1, hg2, h6, h7⟩
  · exact .inl h4
  · exact .inr ⟨g, off, cur, e2, hg1, hg2, (h.block g (by omega) (by omega)).trans h6, h7⟩
/-- What the blocks of v look like behind a growth and a store into the box. -/
theorem grown_store {w W w' : World} (gb : Nat) {u v : Value} {o : Nat} (hbW : Below w.heap.size w W) (hgr : W.grownBy w' v.ownBlock) (k : Nat) (hk : k < w.heap.size) (hne : some k ≠ v.ownBlock) (hkg : k ≠ gb) : (w'.setCell ⟨gb, o, none⟩ u).heap[k]? = w.heap[k]? := by
  rw [Below.heap_setCell _ _ _ _ (show k ≠ gb from hkg), hgr.block k (Nat.lt_of_lt_of_le hk hbW.size) hne, hbW.block k hk]
theorem size_set (w : World) (a : Addr) (u : Value) : (w.setCell a u).heap.size = w.heap.size := by simp [World.setCell]
theorem own_frame {w w' : World} {B e sz : Nat} {v : Value} {n : Nat} {xs : List Value} (h : w.ownsRow B e sz v n xs) (hk : ∀ k, v.ownBlock = some k → w'.heap[k]? = w.heap[k]?) : w'.ownsRow B e sz v n xs := by
  obtain ⟨h1, h2⟩ := h
  refine ⟨h1, ?_⟩
  rcases h2 with h2 | ⟨g, cap, cur, hv, hb, hg, rest⟩
  · exact .inl h2
  · exact .inr ⟨g, cap, cur, hv, hb, (hk g (by rw [hv]; rfl)).trans hg, rest⟩
theorem strs_frame {w w' : World} {b : Nat} {v : Value} {l : List ByteArray} (h : StrsW w b (b + 1) v l) (hk : w'.heap[b]? = w.heap[b]?) : StrsW w' b (b + 1) v l := ⟨h.1.of_block hk, h.2⟩
/-- One affix more. -/
theorem GB.affix {w W w' : World} {B gb v1 v2 g q us} (h : GB w B gb v1 v2 g q us) (hbW : Below w.heap.size w W) (hB : B ≤ w.heap.size) (x : AffD) (hx : AffLim x maxLen) (gn cap : Nat)
    (hown : w'.ownsRow B 51 5 (.slice (some ⟨gn, 0, none⟩) (g.affixes.length + 1) cap) (g.affixes.length + 1) (g.affixes.flatMap affL ++ affL x)) (hgr : W.grownBy w' v1.ownBlock) (hloc : v1.ownBlock = some gn ∨ gn = W.heap.size) :
    GB (w'.setCell ⟨gb, 0, none⟩ (.slice (some ⟨gn, 0, none⟩) (g.affixes.length + 1) cap)) B gb (.slice (some ⟨gn, 0, none⟩) (g.affixes.length + 1) cap) v2 ⟨g.affixes ++ [x], g.stems⟩ q us ∧
      KeepG B gb w (w'.setCell ⟨gb, 0, none⟩ (.slice (some ⟨gn, 0, none⟩) (g.affixes.length + 1) cap)) ∧
      (w'.cell? ⟨gb, 0, none⟩ = some v1 ∧ w'.frozen? ⟨gb, 0, none⟩ = false) ∧ (v1.ownBlock = some gn ∨ w.heap.size ≤ gn) := by
  have hgbl := (Array.getElem?_eq_some_iff.1 h.box).1
  have hlow : ∀ k, v1.ownBlock = some k → B ≤ k ∧ k < w.heap.size := World.ownsRow.lt h.aff
  have hlow2 : ∀ k, v2.ownBlock = some k → B ≤ k ∧ k < w.heap.size := World.ownsRow.lt h.stm
  have hgne : some gb ≠ v1.ownBlock := fun e => by have := (hlow gb e.symm).1; have := h.gbB; omega
  have hgb' : w'.heap[gb]? = some (.cells #[v1, v2] 27 (0, 0)) := by rw [hgr.block gb (Nat.lt_of_lt_of_le hgbl hbW.size) hgne, hbW.block gb hgbl]; exact h.box
  have hgn : v1.ownBlock = some gn ∨ w.heap.size ≤ gn := by
    rcases hloc with h1 | h1
    · exact .inl h1
    · right; rw [h1]; exact hbW.size
  have hsz : w.heap.size ≤ w'.heap.size := Nat.le_trans hbW.size hgr.size
  have hfr : ∀ k, k < w.heap.size → some k ≠ v1.ownBlock → k ≠ gb → (w'.setCell ⟨gb, 0, none⟩ (.slice (some ⟨gn, 0, none⟩) (g.affixes.length + 1) cap)).heap[k]? = w.heap[k]? := fun k hk h1 h2 => grown_store gb hbW hgr k hk h1 h2
  have hgnB : B ≤ gn := by rcases hgn with e | e; exact (hlow gn e).1; omega
  refine ⟨⟨?_, h.gbB, ?_, ?_, h.len, fun j hj hj' => ?_, fun j hj => ?_, h.inj, fun k hk => ?_, fun j hj => ?_, fun y hy => ?_, h.lims⟩, ⟨?_, ?_, ?_, ?_, fun k hk hkg => ?_⟩, cell_of_heap (i := 0) (v := v1) hgb' rfl, hgn⟩
  · exact set_heap (i := 0) _ hgb'
  · have hgb3 := h.gbB
    rw [List.length_append, List.flatMap_append, List.flatMap_singleton]
    exact own_frame hown fun k hk => Below.heap_setCell _ _ _ _ (by show k ≠ gb; have : gn = k := Option.some.inj hk; omega)
  · exact own_frame h.stm fun k hk => hfr k (hlow2 k hk).2 (fun e => h.ap k e.symm hk) (by have := (hlow2 k hk).1; have := h.gbB; omega)
  · exact strs_frame (h.uses j hj hj') (hfr _ (h.low j hj).2 (fun e => (h.apq j hj).1 e.symm) (by have := (h.low j hj).1; have := h.gbB; omega))
  · rw [size_set]; exact ⟨(h.low j hj).1, by have := (h.low j hj).2; omega⟩
  · have hk : gn = k := Option.some.inj hk
    subst hk
    rcases hgn with e | e
    · exact h.ap gn e
    · intro e2; have := (hlow2 gn e2).2; omega
  · refine ⟨fun e => ?_, (h.apq j hj).2⟩
    have e : gn = q j := Option.some.inj e
    rcases hgn with e2 | e2
    · exact (h.apq j hj).1 (by rw [e2, e])
    · have := (h.low j hj).2; omega
  · rcases List.mem_append.1 hy with hy | hy
    · exact h.lima y hy
    · rw [List.mem_singleton.1 hy]; exact hx
  · exact hgr.os.trans hbW.os
  · exact hgr.tape.trans hbW.tape
  · exact hgr.output.trans hbW.output
  · rw [size_set]; exact hsz
  · exact hfr k (by omega) (fun e => by have := (hlow k e.symm).1; omega) hkg
/-- One stem more, its uses in block qn. -/
theorem GB.stem {w W w' : World} {B gb v1 v2 g q us} (h : GB w B gb v1 v2 g q us) (hbW : Below w.heap.size w W) (hB : B ≤ w.heap.size) (s : StemD) (u : Value) (qn : Nat) (hs : s.word.size ≤ maxLen) (gn cap : Nat)
    (hu : StrsW W qn (qn + 1) u s.uses) (hq1 : B ≤ qn ∧ qn < W.heap.size) (hqq : ∀ j, j < g.stems.length → q j ≠ qn) (hq2 : v1.ownBlock ≠ some qn ∧ v2.ownBlock ≠ some qn)
    (hown : w'.ownsRow B 59 2 (.slice (some ⟨gn, 0, none⟩) (g.stems.length + 1) cap) (g.stems.length + 1) ((g.stems.zip us).flatMap stemL ++ [.string s.word, u])) (hgr : W.grownBy w' v2.ownBlock) (hloc : v2.ownBlock = some gn ∨ gn = W.heap.size) :
    GB (w'.setCell ⟨gb, 1, none⟩ (.slice (some ⟨gn, 0, none⟩) (g.stems.length + 1) cap)) B gb v1 (.slice (some ⟨gn, 0, none⟩) (g.stems.length + 1) cap) ⟨g.affixes, g.stems ++ [s]⟩ (fun j => if j = g.stems.length then qn else q j) (us ++ [u]) ∧
      KeepG B gb w (w'.setCell ⟨gb, 1, none⟩ (.slice (some ⟨gn, 0, none⟩) (g.stems.length + 1) cap)) ∧
      (w'.cell? ⟨gb, 1, none⟩ = some v2 ∧ w'.frozen? ⟨gb, 1, none⟩ = false) := by
  have hgbl := (Array.getElem?_eq_some_iff.1 h.box).1
  have hgbB := h.gbB
  have hlow : ∀ k, v1.ownBlock = some k → B ≤ k ∧ k < w.heap.size := World.ownsRow.lt h.aff
  have hlow2 : ∀ k, v2.ownBlock = some k → B ≤ k ∧ k < w.heap.size := World.ownsRow.lt h.stm
  have hgne : some gb ≠ v2.ownBlock := fun e => by have := (hlow2 gb e.symm).1; omega
  have hgb' : w'.heap[gb]? = some (.cells #[v1, v2] 27 (0, 0)) := by rw [hgr.block gb (Nat.lt_of_lt_of_le hgbl hbW.size) hgne, hbW.block gb hgbl]; exact h.box
  have hgn : v2.ownBlock = some gn ∨ W.heap.size ≤ gn := by
    rcases hloc with h1 | h1
    · exact .inl h1
    · right; omega
  have hWs := hbW.size
  have hsz : w.heap.size ≤ w'.heap.size := Nat.le_trans hbW.size hgr.size
  have hfr : ∀ k, k < w.heap.size → some k ≠ v2.ownBlock → k ≠ gb → (w'.setCell ⟨gb, 1, none⟩ (.slice (some ⟨gn, 0, none⟩) (g.stems.length + 1) cap)).heap[k]? = w.heap[k]? := fun k hk h1 h2 => grown_store gb hbW hgr k hk h1 h2
  have hgnB : B ≤ gn := by rcases hgn with e | e; exact (hlow2 gn e).1; omega
  have hqg : qn ≠ gn := fun e => by
    rcases hgn with e2 | e2
    · exact hq2.2 (by rw [e2, e])
    · omega
  have hufr : (w'.setCell ⟨gb, 1, none⟩ (.slice (some ⟨gn, 0, none⟩) (g.stems.length + 1) cap)).heap[qn]? = W.heap[qn]? := by
    rw [Below.heap_setCell _ _ _ _ (show qn ≠ gb by omega), hgr.block qn hq1.2 (fun e => hq2.2 e.symm)]
  refine ⟨⟨?_, h.gbB, ?_, ?_, by simp [h.len], fun j hj hj' => ?_, fun j hj => ?_, fun i j hi hj e => ?_, fun k hk e => ?_, fun j hj => ?_, h.lima, fun y hy => ?_⟩, ⟨?_, ?_, ?_, ?_, fun k hk hkg => ?_⟩, cell_of_heap (i := 1) (v := v2) hgb' rfl⟩
  · exact set_heap (i := 1) _ hgb'
  · exact own_frame h.aff fun k hk => hfr k (hlow k hk).2 (fun e => h.ap k hk e.symm) (by have := (hlow k hk).1; omega)
  · have ez : ((g.stems ++ [s]).zip (us ++ [u])).flatMap stemL = (g.stems.zip us).flatMap stemL ++ [.string s.word, u] := by
      rw [List.zip_append h.len.symm, List.flatMap_append]; rfl
    rw [List.length_append, ez]
    exact own_frame hown fun k hk => Below.heap_setCell _ _ _ _ (by show k ≠ gb; have : gn = k := Option.some.inj hk; omega)
  · by_cases e : j = g.stems.length
    · subst e
      have e1 : (us ++ [u])[g.stems.length] = u := by
        have := h.len
        rw [List.getElem_append_right (by omega)]
        simp [h.len]
      have e2 : (g.stems ++ [s])[g.stems.length] = s := by simp
      simp only [if_true, e1, e2]
      exact strs_frame hu hufr
    · have hj2 : j < g.stems.length := by simp at hj; omega
      have hj3 : j < us.length := by have := h.len; omega
      simp only [if_neg e, List.getElem_append_left hj2, List.getElem_append_left hj3]
      exact strs_frame (h.uses j hj2 hj3) (hfr _ (h.low j hj2).2 (fun e => (h.apq j hj2).2 e.symm) (by have := (h.low j hj2).1; omega))
  · rw [size_set]
    by_cases e : j = g.stems.length
    · simp only [if_pos e]; have := hgr.size; omega
    · have hj2 : j < g.stems.length := by simp at hj; omega
      simp only [if_neg e]
      exact ⟨(h.low j hj2).1, by have := (h.low j hj2).2; omega⟩
  · simp only [List.length_append, List.length_singleton] at hi hj
    by_cases ei : i = g.stems.length <;> by_cases ej : j = g.stems.length
    · omega
    · simp only [if_pos ei, if_neg ej] at e
      exact absurd e.symm (hqq j (by omega))
    · simp only [if_neg ei, if_pos ej] at e
      exact absurd e (hqq i (by omega))
    · simp only [if_neg ei, if_neg ej] at e
      exact h.inj i j (by omega) (by omega) e
  · have e : gn = k := Option.some.inj e
    subst e
    rcases hgn with e2 | e2
    · exact h.ap gn hk e2
    · have := (hlow gn hk).2; omega
  · simp only [List.length_append, List.length_singleton] at hj
    by_cases e : j = g.stems.length
    · simp only [if_pos e]
      exact ⟨hq2.1, fun e2 => hqg (Option.some.inj e2).symm⟩
    · simp only [if_neg e]
      refine ⟨(h.apq j (by omega)).1, fun e2 => ?_⟩
      have e2 : gn = q j := Option.some.inj e2
      rcases hgn with e3 | e3
      · exact (h.apq j (by omega)).2 (by rw [e3, e2])
      · have := (h.low j (by omega)).2; omega
  · rcases List.mem_append.1 hy with hy | hy
    · exact h.lims y hy
    · rw [List.mem_singleton.1 hy]; exact hs
  · exact hgr.os.trans hbW.os
  · exact hgr.tape.trans hbW.tape
  · exact hgr.output.trans hbW.output
  · rw [size_set]; exact hsz
  · exact hfr k (by omega) (fun e => by have := (hlow2 k e.symm).1; omega) hkg
/-- A list without its first strings. -/
theorem StrsW.dropN {w : World} {lo hi : Nat} {b o n c : Nat} {l : List ByteArray} (h : StrsW w lo hi (.slice (some ⟨b, o, none⟩) n c) l) (m : Nat) (hm : m ≤ l.length) : StrsW w lo hi (.slice (some ⟨b, o + m, none⟩) (n - m) (c - m)) (l.drop m) := by
  obtain ⟨⟨h1, a, c', e, h2, h3, h4⟩, h5⟩ := h
  injection e with e1 e2 e3
  subst e1 e2 e3
  refine ⟨⟨by simp, some ⟨b, o + m, none⟩, c - m, by rw [List.length_drop], by rw [List.length_drop]; omega, by omega, ?_⟩, fun s hs => h5 s (List.mem_of_mem_drop hs)⟩
  rcases h4 with h4 | ⟨g, off, cur, e, hg, hg2, hh, hs, ht⟩
  · left; rw [List.length_drop]; omega
  · cases e
    refine .inr ⟨_, _, cur, rfl, hg, hg2, hh, by rw [List.length_drop]; omega, ?_⟩
    rw [List.map_drop, ← ht, List.drop_take, List.drop_drop, List.length_drop]
    congr 1
    omega
theorem own_exact {w : World} {B e sz : Nat} {v : Value} {n : Nat} {xs : List Value} (h : w.ownsRow B e sz v n xs) (d : Nat) : ∃ k, ((v.ownBlock = some k ∧ B ≤ k ∧ k < w.heap.size) ∨ (v.ownBlock = none ∧ k = d)) ∧ SlW w k (k + 1) e sz v n xs := by
  rcases h.2 with ⟨rfl, rfl⟩ | ⟨g, cap, cur, rfl, hg, hh, h1, h2, h3, h4⟩
  · exact ⟨d, .inr ⟨rfl, rfl⟩, h.1, none, 0, rfl, Nat.le_refl _, by unfold maxLen; omega, .inl rfl⟩
  · refine ⟨g, .inl ⟨rfl, hg, (Array.getElem?_eq_some_iff.1 hh).1⟩, h.1, _, cap, rfl, h1, h2, .inr ⟨g, 0, cur, rfl, Nat.le_refl _, Nat.lt_succ_self _, hh, ?_, by simpa using h4⟩⟩
    have := Nat.mul_le_mul_right sz h1
    omega
/-- A grammar in its box, as it is handed back; rb: one more block of the call's own. -/
theorem GB.graX {w : World} {B gb rb lo : Nat} {v1 v2 : Value} {g : GraD} {q us} (h : GB w B gb v1 v2 g q us) (hlo : lo ≤ gb) (hr : lo ≤ rb) (hrB : rb < B) (hne : rb ≠ gb) (hB : B ≤ w.heap.size) : GraX w lo w.heap.size (.agg #[v1, v2]) g := by
  have hgB := h.gbB
  obtain ⟨ab, ha, hA⟩ := own_exact h.aff gb
  obtain ⟨og, ho, hO⟩ := own_exact h.stm rb
  have hq : ∀ j, j < g.stems.length → q j ≠ ab ∧ q j ≠ og := fun j hj => by
    have h1 := (h.low j hj).1
    have h2 := h.apq j hj
    refine ⟨fun e => ?_, fun e => ?_⟩
    · rcases ha with ⟨h3, -⟩ | ⟨-, rfl⟩
      · exact h2.1 (by rw [h3, e])
      · omega
    · rcases ho with ⟨h3, -⟩ | ⟨-, rfl⟩
      · exact h2.2 (by rw [h3, e])
      · omega
  have hao : ab ≠ og := fun e => by
    subst e
    rcases ha with ⟨h1, h2, h3⟩ | ⟨h1, rfl⟩ <;> rcases ho with ⟨h4, h5, h6⟩ | ⟨h4, h5⟩
    · exact h.ap _ h1 h4
    · omega
    · omega
    · omega
  refine ⟨v1, v2, ab, og, q, us, rfl, ⟨hA, h.lima⟩, ⟨h.len, hO, h.lims, h.uses, fun j hj => (hq j hj).2, h.inj⟩, ?_, ?_, hao, fun j hj => ?_⟩
  · rcases ha with ⟨-, h2, h3⟩ | ⟨-, rfl⟩
    · omega
    · omega
  · rcases ho with ⟨-, h2, h3⟩ | ⟨-, rfl⟩
    · omega
    · omega
  · have h1 := h.low j hj
    exact ⟨by omega, h1.2, (hq j hj).1⟩
end Go.Proofs.YtndfhmphlomeiaaGreatDoor
/- Grammars of the call's own: the blocks of their slices are apart, so that an affix, a stem or a use more leaves the others as they are. No condition. -/
namespace Go.Proofs.YtndfhmphlomeiaaGreatDoor
open Go.RowKit
/-- All blocks of the grammar are apart, at B or above. -/
structure GO (w : World) (B : Nat) (v1 v2 : Value) (x : GraD) (us : List Value) : Prop where
  aff : w.ownsRow B 51 5 v1 x.affixes.length (x.affixes.flatMap affL)
  stm : w.ownsRow B 59 2 v2 x.stems.length ((x.stems.zip us).flatMap stemL)
  len : us.length = x.stems.length
  uses : ∀ j (_ : j < x.stems.length) (_ : j < us.length), OwnS w B us[j] x.stems[j].uses
  inj : ∀ i j (_ : i < us.length) (_ : j < us.length), i ≠ j → ∀ k, us[i].ownBlock = some k → us[j].ownBlock ≠ some k
  ap : ∀ k, v1.ownBlock = some k → v2.ownBlock ≠ some k
  apq : ∀ j (_ : j < us.length) k, us[j].ownBlock = some k → v1.ownBlock ≠ some k ∧ v2.ownBlock ≠ some k
theorem GO.nil (w : World) (B : Nat) : GO w B (.slice none 0 0) (.slice none 0 0) emptyG [] :=
  ⟨World.ownsRow_nil _ _ _ _, World.ownsRow_nil _ _ _ _, rfl, fun j h => by simp [emptyG] at h, fun i j h => by simp at h, fun k h => by simp [Value.ownBlock] at h, fun j h => by simp at h⟩
theorem own_monoR {w : World} {B B2 e sz : Nat} {v : Value} {n : Nat} {xs : List Value} (h : w.ownsRow B e sz v n xs) (hB : B2 ≤ B) : w.ownsRow B2 e sz v n xs := by
  obtain ⟨h1, h2⟩ := h
  refine ⟨h1, ?_⟩
  rcases h2 with h2 | ⟨g, cap, cur, a, b, c⟩
  · exact .inl h2
  · exact .inr ⟨g, cap, cur, a, Nat.le_trans hB b, c⟩
theorem GO.mono {w : World} {B B2 v1 v2 x us} (h : GO w B v1 v2 x us) (hB : B2 ≤ B) : GO w B2 v1 v2 x us :=
  ⟨own_monoR h.aff hB, own_monoR h.stm hB, h.len, fun j h1 h2 => own_monoR (h.uses j h1 h2) hB, h.inj, h.ap, h.apq⟩
theorem GO.lt1 {w : World} {B v1 v2 x us} (h : GO w B v1 v2 x us) {k : Nat} (e : v1.ownBlock = some k) : B ≤ k ∧ k < w.heap.size := World.ownsRow.lt h.aff k e
theorem GO.lt2 {w : World} {B v1 v2 x us} (h : GO w B v1 v2 x us) {k : Nat} (e : v2.ownBlock = some k) : B ≤ k ∧ k < w.heap.size := World.ownsRow.lt h.stm k e
theorem GO.ltu {w : World} {B v1 v2 x us} (h : GO w B v1 v2 x us) {j : Nat} (hj : j < us.length) {k : Nat} (e : us[j].ownBlock = some k) : B ≤ k ∧ k < w.heap.size :=
  World.ownsRow.lt (h.uses j (by have := h.len; omega) hj) k e
theorem GO.frame {w w' : World} {B v1 v2 x us} (h : GO w B v1 v2 x us) (hk : ∀ k, k < w.heap.size → B ≤ k → w'.heap[k]? = w.heap[k]?) : GO w' B v1 v2 x us :=
  ⟨own_frame h.aff fun k e => hk k (h.lt1 e).2 (h.lt1 e).1, own_frame h.stm fun k e => hk k (h.lt2 e).2 (h.lt2 e).1, h.len,
    fun j h1 h2 => own_frame (h.uses j h1 h2) fun k e => hk k (h.ltu h2 e).2 (h.ltu h2 e).1, h.inj, h.ap, h.apq⟩
theorem GO.below {w w' : World} {B v1 v2 x us} (h : GO w B v1 v2 x us) (hb : Below w.heap.size w w') : GO w' B v1 v2 x us := h.frame fun k hk _ => hb.block k hk
theorem GO.kept {w w' : World} {B v1 v2 x us lo hi} (h : GO w B v1 v2 x us) (hk : Kept lo hi w w') (hi2 : hi ≤ B) : GO w' B v1 v2 x us := h.frame fun k hl hB => hk.block k hl (.inr (by omega))
theorem GO.set {w : World} {B v1 v2 x us g i u} (h : GO w B v1 v2 x us) (hg : g < B) : GO (w.setCell ⟨g, i, none⟩ u) B v1 v2 x us := h.frame fun k _ hB => Below.heap_setCell _ _ _ _ (by show k ≠ g; omega)
theorem GO.grown {w w' : World} {B v1 v2 x us} {r : Option Nat} (h : GO w B v1 v2 x us) (hg : w.grownBy w' r) (hr : ∀ k, r = some k → v1.ownBlock ≠ some k ∧ v2.ownBlock ≠ some k ∧ ∀ j (_ : j < us.length), us[j].ownBlock ≠ some k) : GO w' B v1 v2 x us :=
  ⟨own_frame h.aff fun k e => hg.block k (h.lt1 e).2 (fun e2 => (hr k e2.symm).1 e), own_frame h.stm fun k e => hg.block k (h.lt2 e).2 (fun e2 => (hr k e2.symm).2.1 e), h.len,
    fun j h1 h2 => own_frame (h.uses j h1 h2) fun k e => hg.block k (h.ltu h2 e).2 (fun e2 => (hr k e2.symm).2.2 j h2 e), h.inj, h.ap, h.apq⟩
theorem GO.shape {w : World} {B v1 v2 x us} (h : GO w B v1 v2 x us) : ∃ a c b d, v1 = .slice a x.affixes.length c ∧ v2 = .slice b x.stems.length d := by
  obtain ⟨a, c, e1, -, -⟩ := own_shape h.aff
  obtain ⟨b, d, e2, -, -⟩ := own_shape h.stm
  exact ⟨a, c, b, d, e1, e2⟩
/-- One affix more. -/
theorem GO.affix {w w' : World} {B v1 v2 x us} (h : GO w B v1 v2 x us) (a : AffD) (gn cap : Nat)
    (hown : w'.ownsRow B 51 5 (.slice (some ⟨gn, 0, none⟩) (x.affixes.length + 1) cap) (x.affixes.length + 1) (x.affixes.flatMap affL ++ affL a)) (hgr : w.grownBy w' v1.ownBlock) (hloc : v1.ownBlock = some gn ∨ gn = w.heap.size) :
    GO w' B (.slice (some ⟨gn, 0, none⟩) (x.affixes.length + 1) cap) v2 ⟨x.affixes ++ [a], x.stems⟩ us := by
  refine ⟨?_, own_frame h.stm fun k e => hgr.block k (h.lt2 e).2 (fun e2 => h.ap k e2.symm e), h.len, fun j h1 h2 => own_frame (h.uses j h1 h2) fun k e => hgr.block k (h.ltu h2 e).2 (fun e2 => (h.apq j h2 k e).1 e2.symm), h.inj, fun k hk e => ?_, fun j hj k e => ⟨fun hk => ?_, (h.apq j hj k e).2⟩⟩
  · rw [List.length_append, List.flatMap_append, List.flatMap_singleton]; exact hown
  · have hk : gn = k := Option.some.inj hk
    subst hk
    rcases hloc with e2 | e2
    · exact h.ap gn e2 e
    · have := (h.lt2 e).2; omega
  · have hk : gn = k := Option.some.inj hk
    subst hk
    rcases hloc with e2 | e2
    · exact (h.apq j hj gn e).1 e2
    · have := (h.ltu hj e).2; omega
/-- One stem more. -/
theorem GO.stem {w w' : World} {B v1 v2 x us} (h : GO w B v1 v2 x us) (s : StemD) (u : Value) (hu : OwnS w B u s.uses)
    (hux : ∀ k, u.ownBlock = some k → v1.ownBlock ≠ some k ∧ v2.ownBlock ≠ some k ∧ ∀ j (_ : j < us.length), us[j].ownBlock ≠ some k) (gn cap : Nat)
    (hown : w'.ownsRow B 59 2 (.slice (some ⟨gn, 0, none⟩) (x.stems.length + 1) cap) (x.stems.length + 1) ((x.stems.zip us).flatMap stemL ++ [.string s.word, u])) (hgr : w.grownBy w' v2.ownBlock) (hloc : v2.ownBlock = some gn ∨ gn = w.heap.size) :
    GO w' B v1 (.slice (some ⟨gn, 0, none⟩) (x.stems.length + 1) cap) ⟨x.affixes, x.stems ++ [s]⟩ (us ++ [u]) := by
  have hul : ∀ k, u.ownBlock = some k → k < w.heap.size := fun k e => (World.ownsRow.lt hu k e).2
  have hlen := h.len
  have last : ∀ j (hj : j < (us ++ [u]).length), (∃ h' : j < us.length, (us ++ [u])[j] = us[j]) ∨ (j = us.length ∧ (us ++ [u])[j] = u) := fun j hj => by
    by_cases hl : j < us.length
    · exact .inl ⟨hl, List.getElem_append_left hl⟩
    · have e : j = us.length := by simp at hj; omega
      subst e
      exact .inr ⟨rfl, by simp⟩
  refine ⟨own_frame h.aff fun k e => hgr.block k (h.lt1 e).2 (fun e2 => h.ap k e e2.symm), ?_, by simp [hlen], fun j h1 h2 => ?_, fun i j hi hj hij k ei ej => ?_, fun k hk e => ?_, fun j hj k e => ?_⟩
  · have ez : ((x.stems ++ [s]).zip (us ++ [u])).flatMap stemL = (x.stems.zip us).flatMap stemL ++ [.string s.word, u] := by
      rw [List.zip_append hlen.symm, List.flatMap_append]; rfl
    rw [List.length_append, ez]; exact hown
  · rcases last j h2 with ⟨hl, e⟩ | ⟨hl, e⟩
    · have e3 : (x.stems ++ [s])[j] = x.stems[j]'(by omega) := List.getElem_append_left (by omega)
      rw [e]
      show OwnS w' B us[j] (x.stems ++ [s])[j].uses
      rw [e3]
      exact own_frame (h.uses j (by omega) hl) fun k ek => hgr.block k (h.ltu hl ek).2 (fun e2 => (h.apq j hl k ek).2 e2.symm)
    · rw [e]
      have e3 : (x.stems ++ [s])[j] = s := by
        have : j = x.stems.length := by omega
        subst this; simp
      show OwnS w' B u (x.stems ++ [s])[j].uses
      rw [e3]
      exact own_frame hu fun k ek => hgr.block k (hul k ek) (fun e2 => (hux k ek).2.1 e2.symm)
  · rcases last i hi with ⟨li, e1⟩ | ⟨li, e1⟩ <;> rcases last j hj with ⟨lj, e2⟩ | ⟨lj, e2⟩ <;> rw [e1] at ei <;> rw [e2] at ej
    · exact h.inj i j li lj hij k ei ej
    · exact (hux k ej).2.2 i li ei
    · exact (hux k ei).2.2 j lj ej
    · omega
  · have e : gn = k := Option.some.inj e
    subst e
    rcases hloc with e2 | e2
    · exact h.ap gn hk e2
    · have := (h.lt1 hk).2; omega
  · have key : v1.ownBlock ≠ some k ∧ v2.ownBlock ≠ some k ∧ k < w.heap.size := by
      rcases last j hj with ⟨lj, e2⟩ | ⟨lj, e2⟩ <;> rw [e2] at e
      · exact ⟨(h.apq j lj k e).1, (h.apq j lj k e).2, (h.ltu lj e).2⟩
      · exact ⟨(hux k e).1, (hux k e).2.1, hul k e⟩
    refine ⟨key.1, fun e2 => ?_⟩
    have e2 : gn = k := Option.some.inj e2
    subst e2
    rcases hloc with e3 | e3
    · exact key.2.1 e3
    · have := key.2.2; omega
/-- A store into a block that is none of the grammar's. -/
theorem GO.setNe {w : World} {B v1 v2 x us g i u} (h : GO w B v1 v2 x us) (h1 : ∀ k, v1.ownBlock = some k → k ≠ g) (h2 : ∀ k, v2.ownBlock = some k → k ≠ g) (h3 : ∀ j (_ : j < us.length) k, us[j].ownBlock = some k → k ≠ g) : GO (w.setCell ⟨g, i, none⟩ u) B v1 v2 x us :=
  ⟨own_frame h.aff fun k e => Below.heap_setCell _ _ _ _ (h1 k e), own_frame h.stm fun k e => Below.heap_setCell _ _ _ _ (h2 k e), h.len, fun j h4 h5 => own_frame (h.uses j h4 h5) fun k e => Below.heap_setCell _ _ _ _ (h3 j h5 k e), h.inj, h.ap, h.apq⟩
/-- Sizes that a reading asks for, and few of each. -/
structure GraN (x : GraD) : Prop where
  al : x.affixes.length ≤ 60
  sl : x.stems.length ≤ 60
  af : ∀ a ∈ x.affixes, AffLim a maxLen
  st : ∀ s ∈ x.stems, s.word.size ≤ maxLen ∧ s.uses.length ≤ 60 ∧ ∀ u ∈ s.uses, u.size ≤ maxLen
theorem max12 {n : Nat} (h : n ≤ 60) : n ≤ maxLen := by unfold maxLen; omega
theorem GraS.n {x : GraD} (h : GraS x) : GraN x := by
  have h1 := h.a
  have h2 := h.s
  refine ⟨by omega, by omega, fun a ha => ?_, fun s hs => ?_⟩
  · obtain ⟨j, hj, rfl⟩ := List.getElem_of_mem ha
    have := h.afs j hj
    exact ⟨max12 (by have := this.n.2; omega), max12 (by have := this.c; omega), max12 (by have := this.s; omega), max12 (by have := this.a; omega)⟩
  · obtain ⟨j, hj, rfl⟩ := List.getElem_of_mem hs
    have := h.sts j hj
    exact ⟨max12 (by have := this.w.2; omega), by have := this.u; omega, fun u hu => max12 (by have := (this.n u hu).2; omega)⟩
theorem GraN.nil : GraN emptyG := ⟨by decide, by decide, by simp [emptyG], by simp [emptyG]⟩
theorem GraN.affix {x : GraD} (h : GraN x) {a : AffD} (ha : AffLim a maxLen) (hl : x.affixes.length < 60) : GraN ⟨x.affixes ++ [a], x.stems⟩ :=
  ⟨by simp; omega, h.sl, fun y hy => by
    rcases List.mem_append.1 hy with hy | hy
    · exact h.af y hy
    · rw [List.mem_singleton.1 hy]; exact ha, h.st⟩
theorem GraN.stem {x : GraD} (h : GraN x) {s : StemD} (hs : s.word.size ≤ maxLen ∧ s.uses.length ≤ 60 ∧ ∀ u ∈ s.uses, u.size ≤ maxLen) (hl : x.stems.length < 60) : GraN ⟨x.affixes, x.stems ++ [s]⟩ :=
  ⟨h.al, by simp; omega, h.af, fun y hy => by
    rcases List.mem_append.1 hy with hy | hy
    · exact h.st y hy
    · rw [List.mem_singleton.1 hy]; exact hs⟩
theorem GraS.nil : GraS emptyG := ⟨by decide, by decide, fun j h => by simp [emptyG] at h, fun j h => by simp [emptyG] at h⟩
theorem GraS.affix {x : GraD} (h : GraS x) {a : AffD} (ha : AffS a) (hl : x.affixes.length < 12) : GraS ⟨x.affixes ++ [a], x.stems⟩ :=
  ⟨by simp; omega, h.s, fun j hj => by
    by_cases hl : j < x.affixes.length
    · rw [show (GraD.mk (x.affixes ++ [a]) x.stems).affixes[j] = x.affixes[j] from List.getElem_append_left hl]; exact h.afs j hl
    · have e : j = x.affixes.length := by simp at hj; omega
      subst e
      rw [show (GraD.mk (x.affixes ++ [a]) x.stems).affixes[x.affixes.length] = a by simp]; exact ha, h.sts⟩
theorem GraS.stem {x : GraD} (h : GraS x) {s : StemD} (hs : StmS s) (hl : x.stems.length < 30) : GraS ⟨x.affixes, x.stems ++ [s]⟩ :=
  ⟨h.a, by simp; omega, h.afs, fun j hj => by
    by_cases hl : j < x.stems.length
    · rw [show (GraD.mk x.affixes (x.stems ++ [s])).stems[j] = x.stems[j] from List.getElem_append_left hl]; exact h.sts j hl
    · have e : j = x.stems.length := by simp at hj; omega
      subst e
      rw [show (GraD.mk x.affixes (x.stems ++ [s])).stems[x.stems.length] = s by simp]; exact hs⟩
theorem GO.graW {w : World} {B v1 v2 x us} (h : GO w B v1 v2 x us) (hn : GraN x) : GraW w B w.heap.size (.agg #[v1, v2]) x :=
  ⟨v1, v2, rfl, ⟨own_SlW h.aff, hn.af⟩, us, h.len, own_SlW h.stm, fun j h1 h2 => ⟨(hn.st _ (List.getElem_mem _)).1, (h.uses j h1 h2).strs (hn.st _ (List.getElem_mem _)).2.2⟩⟩
/-- The first stem's uses have grown, and the stem is stored. -/
theorem GO.use0 {w w' : World} {B b2 n2 c2 : Nat} {v1 : Value} {A : List AffD} {s : StemD} {S : List StemD} {u0 : Value} {us : List Value} (h : GO w B v1 (.slice (some ⟨b2, 0, none⟩) n2 c2) ⟨A, s :: S⟩ (u0 :: us)) (hn : GraN ⟨A, s :: S⟩)
    (t : ByteArray) (ht : t.size ≤ maxLen) (gn cap : Nat) (hown : OwnS w' B (.slice (some ⟨gn, 0, none⟩) (s.uses.length + 1) cap) (s.uses ++ [t])) (hgr : w.grownBy w' u0.ownBlock) :
    GraW (w'.setCell ⟨b2, 1, none⟩ (.slice (some ⟨gn, 0, none⟩) (s.uses.length + 1) cap)) B w'.heap.size (.agg #[v1, .slice (some ⟨b2, 0, none⟩) n2 c2]) ⟨A, ⟨s.word, s.uses ++ [t]⟩ :: S⟩ ∧
      w'.cell? ⟨b2, 1, none⟩ = some u0 ∧ w'.frozen? ⟨b2, 1, none⟩ = false ∧ n2 = S.length + 1 ∧ B ≤ b2 ∧ b2 < w.heap.size ∧ b2 < w'.heap.size := by
  have hb2 := h.lt2 (k := b2) rfl
  have hu0 : ∀ k, u0.ownBlock = some k → v1.ownBlock ≠ some k ∧ some b2 ≠ some k := fun k e => by
    have := h.apq 0 (by simp) k e
    exact ⟨this.1, this.2⟩
  have hsz := hgr.size
  have e2 : n2 = S.length + 1 := by
    have h1 := h.stm
    obtain ⟨a, c, e, -, -⟩ := own_shape h1
    injection e with _ e2 _
  have hs' : w'.ownsRow B 59 2 (.slice (some ⟨b2, 0, none⟩) n2 c2) (s :: S).length ((((s :: S).zip (u0 :: us))).flatMap stemL) :=
    own_frame h.stm fun k e => hgr.block k (h.lt2 e).2 (fun e2 => (hu0 k e2.symm).2 e)
  have hst := own_SlW hs'
  obtain ⟨a, c, ea, hc1, hc2, g, off, ea2, hg1, hg2, hg3, hcell, hfz, hset⟩ := SlW.store (j := 1) hst (by simp; omega)
  injection ea with ea1 ea3 ea4
  subst ea1
  injection ea2 with ea2
  injection ea2 with ea5 ea6 ea7
  subst ea5 ea6
  have hset := hset (.slice (some ⟨gn, 0, none⟩) (s.uses.length + 1) cap)
  rw [Nat.zero_add] at hcell hfz hset
  have hcell : w'.cell? ⟨b2, 1, none⟩ = some u0 := hcell
  have hbl : ∀ k, k ≠ b2 → (w'.setCell ⟨b2, 1, none⟩ (.slice (some ⟨gn, 0, none⟩) (s.uses.length + 1) cap)).heap[k]? = w'.heap[k]? := fun k hk => Below.heap_setCell _ _ _ _ (show k ≠ b2 from hk)
  have hsz2 : (w'.setCell ⟨b2, 1, none⟩ (.slice (some ⟨gn, 0, none⟩) (s.uses.length + 1) cap)).heap.size = w'.heap.size := size_set _ _ _
  have hgb : gn ≠ b2 := by
    intro e
    have h1 := hown
    obtain ⟨-, h2⟩ := h1
    rcases h2 with ⟨e1, -⟩ | ⟨g, cap', cur, e1, -, hh, -⟩
    · cases e1
    · injection e1 with e1 _ _
      injection e1 with e1
      injection e1 with e1 _ _
      subst e1
      rw [e] at hh
      obtain ⟨-, h3⟩ := hs'
      rcases h3 with ⟨e3, -⟩ | ⟨g3, cap3, cur3, e3, -, hh3, -⟩
      · cases e3
      · injection e3 with e3 _ _
        injection e3 with e3
        injection e3 with e3 _ _
        subst e3
        rw [hh] at hh3
        injection hh3 with hh3
        injection hh3 with _ hh3 _
        revert hh3
        decide
  refine ⟨⟨v1, _, rfl, ⟨?_, hn.af⟩, .slice (some ⟨gn, 0, none⟩) (s.uses.length + 1) cap :: us, by have := h.len; simpa using this, hset, fun j h1 h2 => ?_⟩, hcell, hfz, e2, hb2.1, hb2.2, by omega⟩
  · have h1 : w'.ownsRow B 51 5 v1 A.length (A.flatMap affL) := own_frame h.aff fun k e => hgr.block k (h.lt1 e).2 (fun e2 => (hu0 k e2.symm).1 e)
    have := own_SlW (own_frame (w' := w'.setCell ⟨b2, 1, none⟩ (.slice (some ⟨gn, 0, none⟩) (s.uses.length + 1) cap)) h1 fun k e => hbl k (fun e3 => by subst e3; exact h.ap k e rfl))
    rw [hsz2] at this
    exact this
  · cases j with
    | zero =>
      refine ⟨(hn.st s (List.mem_cons_self ..)).1, ?_⟩
      have h3 : OwnS (w'.setCell ⟨b2, 1, none⟩ (.slice (some ⟨gn, 0, none⟩) (s.uses.length + 1) cap)) B (.slice (some ⟨gn, 0, none⟩) (s.uses.length + 1) cap) (s.uses ++ [t]) := by
        refine own_frame hown fun k e => hbl k ?_
        have e : gn = k := Option.some.inj e
        omega
      have h4 := h3.strs (fun y hy => by
        rcases List.mem_append.1 hy with hy | hy
        · exact (hn.st s (List.mem_cons_self ..)).2.2 y hy
        · rw [List.mem_singleton.1 hy]; exact ht)
      rw [hsz2] at h4
      exact h4
    | succ j =>
      have hj1 : j < S.length := by simpa using h1
      have hj2 : j < us.length := by simpa using h2
      have hm := hn.st S[j] (List.mem_cons_of_mem _ (List.getElem_mem _))
      refine ⟨hm.1, ?_⟩
      have hu := h.uses (j + 1) (by simpa using hj1) (by simpa using hj2)
      have h3 : OwnS (w'.setCell ⟨b2, 1, none⟩ (.slice (some ⟨gn, 0, none⟩) (s.uses.length + 1) cap)) B us[j] S[j].uses := by
        refine own_frame (w := w) hu fun k e => ?_
        have hk := World.ownsRow.lt hu k e
        have e4 := (h.apq (j + 1) (by simpa using hj2) k e).2
        rw [hbl k (fun e5 => e4 (by rw [e5]; rfl)), hgr.block k hk.2 (fun e5 => h.inj 0 (j + 1) (by simp) (by simpa using hj2) (by omega) k e5.symm e)]
      have h4 := h3.strs hm.2.2
      rw [hsz2] at h4
      exact h4
/-- Blocks below B, but gb and g, and what lies outside are as they were. -/
structure KeepQ (B gb g : Nat) (w w' : World) : Prop where
  os : w'.os = w.os
  tape : w'.tape = w.tape
  output : w'.output = w.output
  size : w.heap.size ≤ w'.heap.size
  block : ∀ k, k < B → k ≠ gb → k ≠ g → w'.heap[k]? = w.heap[k]?
theorem KeepQ.refl (B gb g : Nat) (w : World) : KeepQ B gb g w w := ⟨rfl, rfl, rfl, Nat.le_refl _, fun _ _ _ _ => rfl⟩
theorem KeepQ.trans {B gb g : Nat} {a b c : World} (h : KeepQ B gb g a b) (k : KeepQ B gb g b c) : KeepQ B gb g a c :=
  ⟨k.os.trans h.os, k.tape.trans h.tape, k.output.trans h.output, Nat.le_trans h.size k.size, fun i hi hn hm => (k.block i hi hn hm).trans (h.block i hi hn hm)⟩
theorem KeepQ.of_below {B gb g C : Nat} {w w' : World} (h : Below C w w') (hB : B ≤ C) : KeepQ B gb g w w' := ⟨h.os, h.tape, h.output, h.size, fun k hk _ _ => h.block k (by omega)⟩
theorem KeepQ.of_kept {B gb g : Nat} {w w' : World} (h : Kept g (g + 1) w w') (hB : B ≤ w.heap.size) : KeepQ B gb g w w' := ⟨h.os, h.tape, h.output, h.size, fun k hk _ hn => h.block k (by omega) (by omega)⟩
theorem KeepQ.of_set {B gb g i : Nat} {w : World} {u : Value} : KeepQ B gb g w (w.setCell ⟨gb, i, none⟩ u) := ⟨rfl, rfl, rfl, by simp [World.setCell], fun k _ hn _ => Below.heap_setCell _ _ _ _ (show k ≠ gb from hn)⟩
theorem KeepQ.of_grown {B gb g : Nat} {w w' : World} {r : Option Nat} (h : w.grownBy w' r) (hr : ∀ k, r = some k → B ≤ k) (hB : B ≤ w.heap.size) : KeepQ B gb g w w' :=
  ⟨h.os, h.tape, h.output, h.size, fun k hk _ _ => h.block k (by omega) (fun e => by have := hr k e.symm; omega)⟩
theorem KeepQ.weak {B gb g : Nat} {w w' : World} (h : KeepQ B gb gb w w') : KeepQ B gb g w w' := ⟨h.os, h.tape, h.output, h.size, fun k hk hn _ => h.block k hk hn hn⟩
theorem KeepQ.low {B gb g : Nat} {w w' : World} (h : KeepQ B gb gb w w') (hg : g < gb) (hB : gb < B) : Below (g + 1) w w' := ⟨h.os, h.tape, h.output, h.size, fun k hk => h.block k (by omega) (by omega) (by omega)⟩
theorem KeepQ.kept {B gb g : Nat} {w wx wr : World} (h : KeepQ B gb g wx wr) (hK : Kept g (g + 1) w wx) (hw : w.heap.size ≤ gb) (hB : gb < B) : Kept g (g + 1) w wr :=
  ⟨h.os.trans hK.os, h.tape.trans hK.tape, h.output.trans hK.output, Nat.le_trans hK.size h.size, fun k hk ho => (h.block k (by omega) (by omega) (by omega)).trans (hK.block k hk ho)⟩
theorem KeepQ.less {B B2 gb gb2 g : Nat} {w w' : World} (h : KeepQ B gb g w w') (h1 : B2 ≤ B) (h2 : B2 ≤ gb) : KeepQ B2 gb2 g w w' := ⟨h.os, h.tape, h.output, h.size, fun k hk _ hm => h.block k (by omega) (by omega) hm⟩
theorem KeepQ.mono {B B2 gb g : Nat} {w w' : World} (h : KeepQ B gb g w w') (h1 : B2 ≤ B) : KeepQ B2 gb g w w' := ⟨h.os, h.tape, h.output, h.size, fun k hk hn hm => h.block k (by omega) hn hm⟩
/-- The box. -/
def BoxG (w : World) (gb : Nat) (v1 v2 : Value) : Prop := w.heap[gb]? = some (.cells #[v1, v2] 27 (0, 0))
theorem BoxG.lt {w gb v1 v2} (h : BoxG w gb v1 v2) : gb < w.heap.size := (Array.getElem?_eq_some_iff.1 h).1
theorem BoxG.c0 {w gb v1 v2} (h : BoxG w gb v1 v2) : w.cell? ⟨gb, 0, none⟩ = some v1 ∧ w.frozen? ⟨gb, 0, none⟩ = false := src_cell (i := 0) h rfl
theorem BoxG.c1 {w gb v1 v2} (h : BoxG w gb v1 v2) : w.cell? ⟨gb, 1, none⟩ = some v2 ∧ w.frozen? ⟨gb, 1, none⟩ = false := src_cell (i := 1) h rfl
theorem BoxG.below {w w' : World} {gb v1 v2} (h : BoxG w gb v1 v2) (hb : Below w.heap.size w w') : BoxG w' gb v1 v2 := (hb.block gb h.lt).trans h
theorem BoxG.kept {w w' : World} {gb v1 v2 lo hi} (h : BoxG w gb v1 v2) (hk : Kept lo hi w w') (hd : gb < lo ∨ hi ≤ gb) : BoxG w' gb v1 v2 := (hk.block gb h.lt hd).trans h
theorem BoxG.grown {w w' : World} {gb v1 v2 r} (h : BoxG w gb v1 v2) (hk : w.grownBy w' r) (hd : ∀ k, r = some k → gb < k) : BoxG w' gb v1 v2 := (hk.block gb h.lt (fun e => by have := hd gb e.symm; omega)).trans h
theorem BoxG.grownNe {w w' : World} {gb v1 v2 r} (h : BoxG w gb v1 v2) (hk : w.grownBy w' r) (hd : ∀ k, r = some k → k ≠ gb) : BoxG w' gb v1 v2 := (hk.block gb h.lt (fun e => hd gb e.symm rfl)).trans h
theorem Kept.then_grown {lo hi : Nat} {w w1 w2 : World} {r : Option Nat} (h : Kept lo hi w w1) (h2 : w1.grownBy w2 r) (hr : ∀ k, r = some k → w.heap.size ≤ k) : Kept lo hi w w2 :=
  ⟨h2.os.trans h.os, h2.tape.trans h.tape, h2.output.trans h.output, Nat.le_trans h.size h2.size, fun k hk ho => (h2.block k (Nat.lt_of_lt_of_le hk h.size) (fun e => by have := hr k e.symm; omega)).trans (h.block k hk ho)⟩
theorem BoxG.set0 {w : World} {gb v1 v2} (h : BoxG w gb v1 v2) (u : Value) : BoxG (w.setCell ⟨gb, 0, none⟩ u) gb u v2 := by unfold BoxG at *; simpa using src_set (i := 0) (u := u) h
theorem BoxG.set1 {w : World} {gb v1 v2} (h : BoxG w gb v1 v2) (u : Value) : BoxG (w.setCell ⟨gb, 1, none⟩ u) gb v1 u := by unfold BoxG at *; simpa using src_set (i := 1) (u := u) h
theorem BoxG.set {w : World} {gb v1 v2 g i} (h : BoxG w gb v1 v2) (u : Value) (hg : gb ≠ g) : BoxG (w.setCell ⟨g, i, none⟩ u) gb v1 v2 := (Below.heap_setCell _ _ _ _ (show gb ≠ g from hg)).trans h
end Go.Proofs.YtndfhmphlomeiaaGreatDoor
/- MatchesAffix, ApplyAffix, UndoAffix of both sides. Conditions: the readings; strings of at most 2^20 bytes; MaxLen's cell. -/
namespace Go.Proofs.YtndfhmphlomeiaaGreatDoor
open Go.RowKit
attribute [local irreducible] Calls
theorem out_size {x : AffD} {s : ByteArray} (ha : affB x = true) (hs : s.size ≤ 12) (hp : x.strip.size ≤ s.size) : (restB x s x.strip.size).size ≤ 12 ∧ x.add.size ≤ 4 ∧ (outB x s).size ≤ 16 := by
  have h4 := lettersB_le (affB_parts ha).2.2.2.1
  have h1 := restB_size (x := x) hp
  have h2 := joinB_size x (restB x s x.strip.size) x.add
  unfold outB
  omega
theorem le_max {n m : Nat} (h : n ≤ m) (hm : m ≤ 1048576 := by omega) : n ≤ maxLen := by unfold maxLen; omega
set_option maxHeartbeats 2000000 in
set_option maxRecDepth 20000 in
theorem implApplyAffix_any (v : Value) (x : AffD) (s : ByteArray) (w : World) (hv : AffR w v x) (hs : s.size ≤ 1048576) (hm : MaxL w) :
    Calls Tryz.prog 67 #[v, .string s] w fun e w' => e = .returned (.tuple #[.string (appV x s).1, .int .i64 (appV x s).2]) ∧ Below w.heap.size w w' := by
  obtain rfl := hv.1
  have hb0 : Below w.heap.size w (w.alloc (.cells #[.string x.name, .bool x.front, .string x.cond, .string x.strip, .string x.add] 51)) := (Below.refl _ _).alloc (Nat.le_refl _) _
  have HX := Lib.hid (hv.box 51)
  have Hs := Lib.hid (le_max hs)
  have HM0 := Lib.hid (hm.below hb0)
  clear hv hm
  have c0 := HX.out.c0
  have c1 := HX.out.c1
  have c2 := HX.out.c2
  have c3 := HX.out.c3
  have c4 := HX.out.c4
  cases ha : affB x
  · have Ha := Lib.hid ha
    go_enter Tryz.func67, Tryz.ntmps67
    go_wp2_with fail
    refine (implValidAffix_any _ x _ HX.out.read HM0.out).mono ?_
    rw [ha]
    rintro e w1 ⟨rfl, hb1⟩
    go_wp2
    go_ret2
    exact ⟨ret_si (appV_bad Ha.out), hb0.trans (hb1.mono hb0.size)⟩
  · have Ha := Lib.hid ha
    cases hl : isLong s
    all_goals
      have Hl := Lib.hid hl
      go_enter Tryz.func67, Tryz.ntmps67
      go_wp2_with fail
      refine (implValidAffix_any _ x _ HX.out.read HM0.out).mono ?_
      rw [ha]
      rintro e w1 ⟨rfl, hb1⟩
      have HB1 := Lib.hid (hb0.trans (hb1.mono hb0.size))
      have HX1 := Lib.hid (HX.out.below hb1)
      have HM1 := Lib.hid (HM0.out.below hb1)
      clear hb1 hb0 HX c0 c1 c2 c3 c4 HM0
      have d0 := HX1.out.c0
      have d1 := HX1.out.c1
      have d2 := HX1.out.c2
      have d3 := HX1.out.c3
      have d4 := HX1.out.c4
      go_wp2_with fail
      refine (isLong_any _ _ Hs.out).mono ?_
      rw [hl]
      rintro e w2 ⟨rfl, hb2⟩
      have HB2 := Lib.hid (HB1.out.trans (hb2.mono HB1.out.size))
      have HX2 := Lib.hid (HX1.out.below hb2)
      have HM2 := Lib.hid (HM1.out.below hb2)
      clear hl hb2 HB1 HX1 HM1 d0 d1 d2 d3 d4
    · go_wp2
      go_ret2
      exact ⟨ret_si (appV_short Ha.out Hl.out), HB2.out⟩
    · have d0 := HX2.out.c0
      have d1 := HX2.out.c1
      have d2 := HX2.out.c2
      have d3 := HX2.out.c3
      have d4 := HX2.out.c4
      have h12 := isLong_12 Hl.out
      cases hm : matB x s
      all_goals
        have Hm := Lib.hid hm
        go_wp2_with fail
        refine (matches_any _ x s _ HX2.out.read Hs.out).mono ?_
        rw [hm]
        rintro e w3 ⟨rfl, hb3⟩
        clear hm
        have HB3 := Lib.hid (HB2.out.trans (hb3.mono HB2.out.size))
        have HX3 := Lib.hid (HX2.out.below hb3)
        have HM3 := Lib.hid (HM2.out.below hb3)
        clear hb3 HB2 HX2 HM2 d0 d1 d2 d3 d4
        have d0 := HX3.out.c0
        have d1 := HX3.out.c1
        have d2 := HX3.out.c2
        have d3 := HX3.out.c3
        have d4 := HX3.out.c4
      · go_wp2
        go_ret2
        exact ⟨ret_si (by rw [appV_ap Ha.out Hl.out, apV_no Hm.out]), HB3.out⟩
      · have hpn := (cutB_iff.1 (matB_strip Hm.out)).1
        obtain ⟨hz1, hz2, hz3⟩ := out_size Ha.out h12 hpn
        have Hz := Lib.hid (le_max hz3)
        have Hout := Lib.hid (show joinB x (restB x s x.strip.size) x.add = outB x s from rfl)
        have Hcr := Lib.hid (cutR_yes (matB_strip Hm.out))
        go_wp2_with fail
        refine (cut_any _ x s _ _ HX3.out.read Hs.out).mono ?_
        rw [Hcr.out]
        rintro e w4 ⟨rfl, hb4⟩
        have HB4 := Lib.hid (HB3.out.trans (hb4.mono HB3.out.size))
        have HX4 := Lib.hid (HX3.out.below hb4)
        have HM4 := Lib.hid (HM3.out.below hb4)
        clear hb4 HB3 HX3 HM3 d0 d1 d2 d3 d4
        have d0 := HX4.out.c0
        have d1 := HX4.out.c1
        have d2 := HX4.out.c2
        have d3 := HX4.out.c3
        have d4 := HX4.out.c4
        go_wp2_with fail
        refine (join_any _ x _ _ _ HX4.out.read (by omega) (by omega)).mono ?_
        rw [Hout.out]
        rintro e w5 ⟨rfl, hb5⟩
        have HB5 := Lib.hid (HB4.out.trans (hb5.mono HB4.out.size))
        have HX5 := Lib.hid (HX4.out.below hb5)
        have HM5 := Lib.hid (HM4.out.below hb5)
        clear hb5 HB4 HX4 HM4 d0 d1 d2 d3 d4
        have d0 := HX5.out.c0
        have d1 := HX5.out.c1
        have d2 := HX5.out.c2
        have d3 := HX5.out.c3
        have d4 := HX5.out.c4
        cases hlo : isLong (outB x s)
        all_goals
          have Hlo := Lib.hid hlo
          go_wp2_with fail
          refine (isLong_any _ _ Hz.out).mono ?_
          rw [hlo]
          rintro e w6 ⟨rfl, hb6⟩
          clear hlo
          go_wp2
          go_ret2
        · exact ⟨ret_si (by rw [appV_ap Ha.out Hl.out, apV_far Hm.out Hlo.out]), HB5.out.trans (hb6.mono HB5.out.size)⟩
        · exact ⟨ret_si (by rw [appV_ap Ha.out Hl.out, apV_yes Hm.out Hlo.out]), HB5.out.trans (hb6.mono HB5.out.size)⟩
end Go.Proofs.YtndfhmphlomeiaaGreatDoor
/- The plain law of FnAffixes: what an affix makes of a word can be undone, and what is undone can be made again. No program in sight. -/
namespace Go.Proofs.YtndfhmphlomeiaaGreatDoor
open Go.RowKit
end Go.Proofs.YtndfhmphlomeiaaGreatDoor
/- FnAffixes: the drawn affix and word. Condition: few choices so far. -/
namespace Go.Proofs.YtndfhmphlomeiaaGreatDoor
open Go.RowKit
/-- The cells of an affix. -/
def affV (x : AffD) : Array Value := #[.string x.name, .bool x.front, .string x.cond, .string x.strip, .string x.add]
def affNil : Array Value := #[.string ⟨#[]⟩, .bool false, .string ⟨#[]⟩, .string ⟨#[]⟩, .string ⟨#[]⟩]
def drawList : List AffD := [⟨⟨#[]⟩, false, ⟨#[]⟩, ⟨#[]⟩, ⟨#[115]⟩⟩, ⟨⟨#[]⟩, false, ⟨#[46, 121]⟩, ⟨#[121]⟩, ⟨#[105, 101, 115]⟩⟩, ⟨⟨#[]⟩, false, ⟨#[101]⟩, ⟨#[101]⟩, ⟨#[105, 110, 103]⟩⟩, ⟨⟨#[]⟩, false, ⟨#[116]⟩, ⟨#[]⟩, ⟨#[101, 114]⟩⟩,
  ⟨⟨#[]⟩, true, ⟨#[]⟩, ⟨#[]⟩, ⟨#[114, 101]⟩⟩, ⟨⟨#[]⟩, true, ⟨#[97]⟩, ⟨#[]⟩, ⟨#[117, 110]⟩⟩, ⟨⟨#[]⟩, false, ⟨#[110]⟩, ⟨#[]⟩, ⟨#[110, 105, 110, 103]⟩⟩, ⟨⟨#[]⟩, true, ⟨#[115]⟩, ⟨#[115]⟩, ⟨#[116]⟩⟩, ⟨⟨#[]⟩, false, ⟨#[46, 46, 46]⟩, ⟨#[97, 116]⟩, ⟨#[101, 116]⟩⟩]
def drawRow : Array Value := (drawList.flatMap fun x => (affV x).toList).toArray
theorem drawRow_at (r : Nat) (h : r < 9) : ∃ x : AffD, AffLim x 20 ∧ drawRow[r * 5]? = some (.string x.name) ∧ drawRow[r * 5 + 1]? = some (.bool x.front) ∧ drawRow[r * 5 + 2]? = some (.string x.cond) ∧ drawRow[r * 5 + 3]? = some (.string x.strip) ∧ drawRow[r * 5 + 4]? = some (.string x.add) := by
  match r, h with
  | 0, _ | 1, _ | 2, _ | 3, _ | 4, _ | 5, _ | 6, _ | 7, _ | 8, _ => exact ⟨⟨_, _, _, _, _⟩, ⟨by decide, by decide, by decide, by decide⟩, rfl, rfl, rfl, rfl, rfl⟩
attribute [local irreducible] Calls
set_option maxHeartbeats 4000000 in
set_option maxRecDepth 20000 in
theorem drawAffix_any (g : Nat) (bs : List UInt8) (k : Nat) (w : World) (hs : SrcW w g bs k) (hk : k ≤ 100000) :
    Calls Tryz.prog 54 #[.pointer (some ⟨g, 0, none⟩)] w fun e w' => ∃ (x : AffD) (k' : Nat), e = .returned (.agg #[.string x.name, .bool x.front, .string x.cond, .string x.strip, .string x.add]) ∧ AffLim x 20 ∧ k' ≤ k + 4 ∧ SrcW w' g bs k' ∧ Kept g (g + 1) w w' := by
  have hgl := hs.lt
  have hb0 : Below w.heap.size w ((w.alloc (.cells affNil 51)).alloc (.cells drawRow 51)) := ((Below.refl _ _).alloc (Nat.le_refl _) _).alloc (by simp) _
  have rA := heap_alloc2_old w (.cells affNil 51) (.cells drawRow 51)
  have rB := heap_alloc2_new w (.cells affNil 51) (.cells drawRow 51)
  go_enter Tryz.func54, Tryz.ntmps54
  go_wp2_with fail
  refine (pick_any g bs k 9 _ _ (hs.below (((Below.refl _ _).alloc (Nat.le_refl _) _).alloc (by simp) _)) (by omega) rfl (by omega)).mono ?_
  rintro e w1 ⟨r, k1, rfl, hr, hk1, hs1, hkk1⟩
  have hkk1 : Kept g (g + 1) ((w.alloc (.cells affNil 51)).alloc (.cells drawRow 51)) w1 := hkk1
  have hr9 : r < 9 := by omega
  have hrI : (r : Int) < 9 := by omega
  obtain ⟨x, hx, q0, q1, q2, q3, q4⟩ := drawRow_at r hr9
  have hrow := (hkk1.block (w.heap.size + 1) (by simp) (.inr (by omega))).trans rB
  have hres := (hkk1.block w.heap.size (by simp; omega) (.inr (by omega))).trans rA
  have hz1 : w.heap.size + 2 ≤ w1.heap.size := by have := hkk1.size; simpa using this
  have K1 := Lib.hid ((Kept.of_below (lo := g) (hi := g + 1) hb0).trans hkk1)
  have HS1 := Lib.hid hs1
  have HRes := Lib.hid hres
  have d0 := (src_cell hrow q0).1
  have d1 := (src_cell hrow q1).1
  have d2 := (src_cell hrow q2).1
  have d3 := (src_cell hrow q3).1
  have d4 := (src_cell hrow q4).1
  have HX := Lib.hid hx
  clear hkk1 rA rB hb0 hrow hres hs1 q0 q1 q2 q3 q4 hs hx
  go_wp2_with fail
  have hb1 : Below w1.heap.size w1 ((w1.alloc (.cells (affV x) 51)).alloc (.cells (([⟨#[112, 108, 117, 114, 97, 108]⟩, ⟨#[97, 99, 116]⟩, ⟨#[101, 114]⟩, ⟨#[114, 101]⟩, ⟨#[117, 110]⟩, ⟨#[120]⟩] : List ByteArray).map Value.string).toArray 9)) := ((Below.refl _ _).alloc (Nat.le_refl _) _).alloc (by simp) _
  have HB1 := Lib.hid hb1
  have hst := strs_built (w1.alloc (.cells (affV x) 51)) [⟨#[112, 108, 117, 114, 97, 108]⟩, ⟨#[97, 99, 116]⟩, ⟨#[101, 114]⟩, ⟨#[114, 101]⟩, ⟨#[117, 110]⟩, ⟨#[120]⟩] (by decide)
  have rB := heap_alloc2_old w1 (.cells (affV x) 51) (.cells (([⟨#[112, 108, 117, 114, 97, 108]⟩, ⟨#[97, 99, 116]⟩, ⟨#[101, 114]⟩, ⟨#[114, 101]⟩, ⟨#[117, 110]⟩, ⟨#[120]⟩] : List ByteArray).map Value.string).toArray 9)
  rw [World.size_alloc] at hst
  refine (text_any g bs k1 _ [⟨#[112, 108, 117, 114, 97, 108]⟩, ⟨#[97, 99, 116]⟩, ⟨#[101, 114]⟩, ⟨#[114, 101]⟩, ⟨#[117, 110]⟩, ⟨#[120]⟩] _ (HS1.out.below hb1) (by omega) hst (by decide) (by decide) (fun a n c e p hp => ?_)).mono ?_
  · cases e; cases hp; show w1.heap.size + 1 ≠ g; omega
  rintro e w2 ⟨t, k2, rfl, htm, hk2, hs2, hkk2⟩
  have ht20 : t.size ≤ 20 := by
    simp only [List.mem_cons, List.not_mem_nil, or_false] at htm
    rcases htm with rfl | rfl | rfl | rfl | rfl | rfl <;> decide
  have hkk2 : Kept g (g + 1) ((w1.alloc (.cells (affV x) 51)).alloc (.cells (([⟨#[112, 108, 117, 114, 97, 108]⟩, ⟨#[97, 99, 116]⟩, ⟨#[101, 114]⟩, ⟨#[114, 101]⟩, ⟨#[117, 110]⟩, ⟨#[120]⟩] : List ByteArray).map Value.string).toArray 9)) w2 := hkk2
  have hbox := (hkk2.block w1.heap.size (by simp; omega) (.inr (by omega))).trans rB
  have hres := ((hkk2.block w.heap.size (by simp; omega) (.inr (by omega))).trans (HB1.out.block w.heap.size (by omega))).trans HRes.out
  have K2 := Lib.hid ((K1.out.trans (Kept.of_below (lo := g) (hi := g + 1) HB1.out)).trans hkk2)
  have HS2 := Lib.hid hs2
  have hz2 : w1.heap.size + 2 ≤ w2.heap.size := by have := hkk2.size; simpa using this
  have HBox := Lib.hid hbox
  have HRes2 := Lib.hid hres
  obtain ⟨e0, z0⟩ := src_cell (i := 0) (v := .string x.name) hbox rfl
  obtain ⟨e1, z1⟩ := src_cell (i := 1) (v := .bool x.front) hbox rfl
  obtain ⟨e2, z2⟩ := src_cell (i := 2) (v := .string x.cond) hbox rfl
  obtain ⟨e3, z3⟩ := src_cell (i := 3) (v := .string x.strip) hbox rfl
  obtain ⟨e4, z4⟩ := src_cell (i := 4) (v := .string x.add) hbox rfl
  obtain ⟨a0, y0⟩ := src_cell (i := 0) (v := .string ⟨#[]⟩) hres rfl
  obtain ⟨a1, y1⟩ := src_cell (i := 1) (v := .bool false) hres rfl
  obtain ⟨a2, y2⟩ := src_cell (i := 2) (v := .string ⟨#[]⟩) hres rfl
  obtain ⟨a3, y3⟩ := src_cell (i := 3) (v := .string ⟨#[]⟩) hres rfl
  obtain ⟨a4, y4⟩ := src_cell (i := 4) (v := .string ⟨#[]⟩) hres rfl
  have hne : ¬ (w1.heap.size = w.heap.size) := by omega
  have hne2 : ¬ (w.heap.size = w1.heap.size) := by omega
  clear hkk2 rB hb1 hst hbox hres hs2 htm d0 d1 d2 d3 d4
  go_wp2
  have hr3 : (w2.setCell ⟨w1.heap.size, 0, none⟩ (.string t)).heap[w.heap.size]? = some (.cells affNil 51 (0, 0)) := (Below.heap_setCell _ _ _ _ (by show w.heap.size ≠ w1.heap.size; omega)).trans HRes2.out
  have st := store5 hr3 (.string t) (.bool x.front) (.string x.cond) (.string x.strip) (.string x.add)
  have hk3 : Kept w1.heap.size (w1.heap.size + 1) w2 (w2.setCell ⟨w1.heap.size, 0, none⟩ (.string t)) := kept_setCell (Nat.le_refl _) (Nat.lt_succ_self _) _
  have hz3 := hk3.size
  refine bodyPost_ret (v := .agg #[.string t, .bool x.front, .string x.cond, .string x.strip, .string x.add]) (results_cell_row (p := 2) (ty := 51) rfl _ _ w.heap.size _ _ _ _ rfl st.1 Tryz.underlying51 rfl infoAffix) rfl
    ⟨{ x with name := t }, k2, rfl, ⟨ht20, HX.out.c, HX.out.s, HX.out.a⟩, by omega, (HS2.out.low (hk3.below (by omega) (by omega))).low (st.2.1.below (by omega) (by omega)), (K2.out.then_new hk3 (by omega)).then_new st.2.1 (Nat.le_refl _)⟩
end Go.Proofs.YtndfhmphlomeiaaGreatDoor
/- Appending one string to a slice of the call's own, with where the new slice lies; readings kept beside it. Condition: Go's own bound on the bytes of a slice. -/
namespace Go.Proofs.YtndfhmphlomeiaaGreatDoor
open Go.RowKit
/-- append(out, s) for strings: one arm of a walk; the new slice lies in its own row or in a new block. -/
theorem app_str_at {ops : Array Oper} {rest : List Oper} {o : Oper} {a : Act} {Q : Exit → Act → World → Prop} {w : World} (hgd : o.guard = none) (s x : Operand)
    (ho : o.op = .call { callee := .builtin .append, args := #[s, x], argTypes := #[35, 35] })
    (B : Nat) (v : Value) (l : List ByteArray) (hs : a.eval s = v) (hown : OwnS w B v l) (c : ByteArray) (hx : a.eval x = .slice (some ⟨w.heap.size, 0, none⟩) 1 1)
    (hn : l.length ≤ 4398046511104) (hB : B ≤ w.heap.size)
    (h : ∀ g cap w', OwnS w' B (.slice (some ⟨g, 0, none⟩) (l.length + 1) cap) (l ++ [c]) → (∀ w0, Below B w0 w → Below B w0 w') → w.grownBy w' v.ownBlock → (some g = v.ownBlock ∨ w.heap.size ≤ g) → wpList Tryz.prog ops Q rest (a.put o.dst (.slice (some ⟨g, 0, none⟩) (l.length + 1) cap)) w') :
    wpList Tryz.prog ops Q (o :: rest) a (w.alloc (.cells #[.string c] 9)) := by
  obtain ⟨i, hi, hz0, hz1, hz2⟩ := info_parts infoStr
  refine wpList_append_own_at _ hgd s x 35 ho B 9 i (.string ⟨#[]⟩) 1 16 Tryz.underlying35 hi hz0 hz1 hz2 rfl (by decide) v l.length (l.map Value.string) hs (World.ownsRow.alloc hown _) ⟨w.heap.size, 0, none⟩ 1 1 [.string c] hx rfl (cell_one_new _ _ _) ?_ (by unfold maxLen; omega) (by omega) (by simp; omega) ?_
  · intro u hu; simp at hu; subst hu; rfl
  · intro v' w' hown' hgrow _ hloc
    obtain ⟨g, cap, rfl⟩ : ∃ g cap, v' = .slice (some ⟨g, 0, none⟩) (l.length + 1) cap := by
      rcases hown'.2 with ⟨_, h0⟩ | ⟨g, cap, cur, hv, _⟩
      · omega
      · exact ⟨g, cap, hv⟩
    have hg2 : w.grownBy w' v.ownBlock := ⟨hgrow.os, hgrow.tape, hgrow.output, Nat.le_trans (by simp) hgrow.size, fun k hk hne => (hgrow.block k (by simp; omega) hne).trans (Below.heap_alloc w _ k hk)⟩
    refine h g cap w' ?_ (fun w0 hb => hb.grown hg2 hB (fun k hk => (World.ownsRow.lt hown k hk).1)) hg2 ?_
    · unfold OwnS
      rw [List.length_append, List.map_append]
      exact hown'
    · rcases hloc with h1 | h1
      · exact .inl h1
      · right
        have e : g = (w.alloc (.cells #[.string c] 9)).heap.size := Option.some.inj h1
        rw [e]; simp
/-- A reading beside a row that has grown. -/
theorem SlR.grown {w w' : World} {sz : Nat} {a : Option Addr} {n c n' : Nat} {xs : List Value} {row : Option Nat} (h : SlR w sz (.slice a n c) n' xs) (hg : w.grownBy w' row) (hne : ∀ b off, a = some ⟨b, off, none⟩ → row ≠ some b) : SlR w' sz (.slice a n c) n' xs := by
  obtain ⟨h1, a', c', e, h2, h3, h4⟩ := h
  refine ⟨h1, a', c', e, h2, h3, fun j u hj => ?_⟩
  injection e with e1 e2 e3
  obtain ⟨b, off, ha, hc⟩ := h4 j u hj
  refine ⟨b, off, ha, ?_⟩
  have hb := hg.block b (World.block_lt_of_cell? _ _ hc) (fun e => hne b off (e1.trans ha) e.symm)
  rw [← hc]; unfold World.cell?
  show (match w'.heap[b]? with | _ => _) = _
  simp only [hb]
theorem Strs.grown {w w' : World} {a : Option Addr} {n c : Nat} {l : List ByteArray} {row : Option Nat} (h : Strs w (.slice a n c) l) (hg : w.grownBy w' row) (hne : ∀ b off, a = some ⟨b, off, none⟩ → row ≠ some b) : Strs w' (.slice a n c) l := ⟨h.1.grown hg hne, h.2⟩
theorem StrsW.block {w : World} {lo hi : Nat} {a : Option Addr} {n c : Nat} {l : List ByteArray} (h : StrsW w lo hi (.slice a n c) l) (hn : 1 ≤ n) : ∀ b off, a = some ⟨b, off, none⟩ → lo ≤ b ∧ b < hi := by
  obtain ⟨⟨h1, a', c', e, h2, h3, h4⟩, h5⟩ := h
  injection e with e1 e2 e3
  intro b off ha
  rcases h4 with h4 | ⟨g, off', cur, ha', hg, hg2, _⟩
  · omega
  · rw [← e1, ha] at ha'
    cases ha'
    exact ⟨hg, hg2⟩
end Go.Proofs.YtndfhmphlomeiaaGreatDoor
/- l03Insert of the reference, for any list: an insertion into its place, or none where the string is there already. Conditions: the list is the call's own; at most 2^20 strings. -/
namespace Go.Proofs.YtndfhmphlomeiaaGreatDoor
open Go.RowKit
/-- append(out, vs...) for strings: one arm of a walk. -/
theorem app_strs_in {ops : Array Oper} {rest : List Oper} {o : Oper} {a : Act} {Q : Exit → Act → World → Prop} {w : World} (hgd : o.guard = none) (s x : Operand)
    (ho : o.op = .call { callee := .builtin .append, args := #[s, x], argTypes := #[35, 35] })
    (B : Nat) (v : Value) (l : List ByteArray) (hs : a.eval s = v) (hown : OwnS w B v l) (hv : v ≠ .slice none 0 0) (ad : Addr) (m c : Nat) (l2 : List ByteArray) (hm : l2.length = m) (hx : a.eval x = .slice (some ad) m c)
    (hc : ∀ j u, (l2.map Value.string)[j]? = some u → w.cell? (ad.add j) = some u)
    (hn : l.length + m ≤ 4398046511104) (hB : B ≤ w.heap.size) (N : Nat) (hN : N = l.length + m) (L : List ByteArray) (hL : L = l ++ l2)
    (h : ∀ g cap w', OwnS w' B (.slice (some ⟨g, 0, none⟩) N cap) L → w.grownBy w' v.ownBlock → (some g = v.ownBlock ∨ w.heap.size ≤ g) → wpList Tryz.prog ops Q rest (a.put o.dst (.slice (some ⟨g, 0, none⟩) N cap)) w') :
    wpList Tryz.prog ops Q (o :: rest) a w := by
  subst hm hN hL
  obtain ⟨i, hi, hz0, hz1, hz2⟩ := info_parts infoStr
  refine wpList_append_own_at _ hgd s x 35 ho B 9 i (.string ⟨#[]⟩) 1 16 Tryz.underlying35 hi hz0 hz1 hz2 rfl (by decide) v l.length (l.map Value.string) hs hown ad l2.length c (l2.map Value.string) hx (by simp) hc ?_ (by unfold maxLen; omega) (by omega) hB ?_
  · intro u hu; simp at hu; obtain ⟨y, -, rfl⟩ := hu; rfl
  · intro v' w' hown' hgrow hnil hloc
    obtain ⟨g, cap, rfl⟩ : ∃ g cap, v' = .slice (some ⟨g, 0, none⟩) (l.length + l2.length) cap := by
      rcases hown'.2 with ⟨h1, h0⟩ | ⟨g, cap, cur, hv, _⟩
      · exact absurd (hnil.1 h1).1 hv
      · exact ⟨g, cap, hv⟩
    refine h g cap w' ?_ hgrow ?_
    · unfold OwnS
      rw [List.length_append, List.map_append]
      exact hown'
    · rcases hloc with h1 | h1
      · exact .inl h1
      · right
        have e : g = w.heap.size := Option.some.inj h1
        omega
theorem own_mono {w : World} {B B2 : Nat} {v : Value} {l : List ByteArray} (h : OwnS w B v l) (hB : B2 ≤ B) : OwnS w B2 v l := by
  obtain ⟨h1, h2⟩ := h
  refine ⟨h1, ?_⟩
  rcases h2 with h2 | ⟨g, cap, cur, a, b, c⟩
  · exact .inl h2
  · exact .inr ⟨g, cap, cur, a, Nat.le_trans hB b, c⟩
theorem add_pl (b off i : Nat) : (⟨b, off, none⟩ : Addr).add i = ⟨b, off + i, none⟩ := by unfold Addr.add; split <;> simp_all
/-- The list with the string at place k. -/
def putAt (l : List ByteArray) (x : ByteArray) (k : Nat) : List ByteArray := l.take k ++ x :: l.drop k
theorem putAt_len {l : List ByteArray} {x : ByteArray} {k : Nat} (h : k ≤ l.length) : (putAt l x k).length = l.length + 1 := by simp [putAt]; omega
theorem putAt_parts (l : List ByteArray) (x : ByteArray) (k : Nat) : putAt l x k = (l.take k ++ [x]) ++ l.drop k := by simp [putAt]
attribute [local irreducible] Calls
set_option maxHeartbeats 8000000 in
set_option maxRecDepth 20000 in
theorem insertG_any (B g cap : Nat) (l : List ByteArray) (x : ByteArray) (w : World) (hl : l.length ≤ 1048576) (hBw : B ≤ w.heap.size) (hown : OwnS w B (.slice (some ⟨g, 0, none⟩) l.length cap) l) :
    Calls Tryz.prog 56 #[.slice (some ⟨g, 0, none⟩) l.length cap, .string x] w fun e w' => ∃ l2 g' cap', e = .returned (.slice (some ⟨g', 0, none⟩) l2.length cap') ∧ InsTo l x l2 ∧ OwnS w' B (.slice (some ⟨g', 0, none⟩) l2.length cap') l2 ∧ Below w.heap.size w w' := by
  have hcap : l.length ≤ cap ∧ cap ≤ maxLen := by
    obtain ⟨a, c, e, h1, h2⟩ := hown.shape
    injection e with e1 e2 e3
    omega
  have hg := (World.ownsRow.lt hown g rfl).2
  have Hown := Lib.hid hown
  obtain ⟨hcap1, hcap2⟩ := hcap
  unfold maxLen at hcap2
  have Hcell : Hid (∀ j (hj : j < l.length), w.cell? ⟨g, j, none⟩ = some (.string l[j])) := Lib.hid fun j hj => by
    have := World.ownsRow.cellAt hown j (by omega)
    rw [this, List.getElem?_map, List.getElem?_eq_getElem hj]; rfl
  clear hown
  go_enter Tryz.func56, Tryz.ntmps56
  go_wp2
  go_loop [5] (fun i => ∃ k : Nat, k ≤ l.length ∧ i = .int .i64 (k : Int) ∧ Hid (∀ j, k ≤ j → (h : j < l.length) → Op.bytesLess x.toList l[j].toList = true)) (fun i => (intOf i).toNat)
  case atStart => exact ⟨l.length, Nat.le_refl _, rfl, Lib.hid fun j h h2 => by omega⟩
  case round =>
    obtain ⟨k, hk, rfl, Hgt⟩ := hrel
    have HC : Hid (∀ j u, ((l.take k).map Value.string)[j]? = some u → (w.alloc (.cells #[] 9)).cell? ((⟨g, 0, none⟩ : Addr).add j) = some u) := Lib.hid (fun j u hj => by
      have hj2 : (l.map Value.string)[j]? = some u := by
        rw [List.getElem?_map] at hj ⊢
        rw [List.getElem?_take] at hj
        split at hj
        · exact hj
        · simp at hj
      exact World.ownsRow.cells (World.ownsRow.alloc Hown.out _) (g := g) rfl j u hj2)
    have HC2 : Hid (∀ (w' : World), Below w.heap.size w w' → ∀ j u, ((l.drop k).map Value.string)[j]? = some u → w'.cell? ((⟨g, k, none⟩ : Addr).add j) = some u) := Lib.hid (fun w' hb j u hj => by
      have hj2 : (l.map Value.string)[k + j]? = some u := by
        rw [List.getElem?_map] at hj ⊢
        rw [List.getElem?_drop] at hj
        exact hj
      have h1 := World.ownsRow.cells (Hown.out.below hb) (g := g) rfl (k + j) u hj2
      have e : (⟨g, k, none⟩ : Addr).add j = (⟨g, 0, none⟩ : Addr).add (k + j) := by rw [add_pl, add_pl, Nat.zero_add]
      rw [e]; exact h1)
    have Hlen : Hid ((l.take k).length = k) := Lib.hid (by rw [List.length_take]; omega)
    have Hlen2 : Hid ((l.drop k).length = l.length - k) := Lib.hid (by rw [List.length_drop])
    by_cases h0 : 0 < k
    · obtain ⟨j, rfl⟩ : ∃ j, k = j + 1 := ⟨k - 1, by omega⟩
      have hjl : j < l.length := by omega
      have hcell := Hcell.out j hjl
      have hpos : (0 : Int) < (j : Int) + 1 := by omega
      have hj0 : (0 : Int) ≤ (j : Int) := by omega
      have hjn : (j : Int) < (l.length : Int) := by omega
      rcases bl_tri l[j].toList x.toList with ⟨hx1, hx2, hx3, hx4⟩ | ⟨hx1, hx2, hx3, hx4⟩ | ⟨hx1, hx2, hx3⟩
      · have Hx := Lib.hid hx1
        have hcI : (j : Int) + 1 ≤ (cap : Int) := by omega
        have hcL : (j : Int) + 1 ≤ (l.length : Int) := by omega
        have hcLn : j + 1 ≤ l.length := by omega

        have e3 : l.length + 1 = (putAt l x (j + 1)).length := (putAt_len hcLn).symm
        have hLn : (l.take (j + 1)).length + 1 + (l.length - (j + 1)) = l.length + 1 := by rw [Hlen.out]; omega
        by_cases hcn : cap = j + 1
        all_goals
          go_wp2_with (first
            | (at_builtin; refine app_strs_in (w := w.alloc (.cells #[] 9)) rfl (.tmp 34) (.tmp 37) rfl w.heap.size (.slice (some ⟨w.heap.size, 0, none⟩) 0 0) [] rfl (OwnS.made w w.heap.size (Nat.le_refl _)) (by simp) ⟨g, 0, none⟩ (j + 1) _ (l.take (j + 1)) Hlen.out rfl HC.out (by first | omega | (simp <;> omega)) (by simp) (j + 1) (by simp) (l.take (j + 1)) rfl ?_; intro g1 cap1 w1 hown1 hgr1 hloc1; have Hb1 := Lib.hid (Below.grown ((Below.refl w.heap.size w).alloc (Nat.le_refl _) (.cells #[] 9)) hgr1 (by simp) (fun k hk => by have : w.heap.size = k := (by simpa [Value.ownBlock] using hk); omega)))
            | (at_builtin; refine app_str_at (w := w1) rfl (.tmp 39) (.tmp 41) rfl w.heap.size (.slice (some ⟨g1, 0, none⟩) (j + 1) cap1) (l.take (j + 1)) rfl hown1 x rfl (by first | omega | (simp <;> omega)) Hb1.out.size ?_; intro g2 cap2 w2 hown2 hbel2 hgr2 hloc2; rw [Hlen.out] at hown2)
            | (at_builtin; refine app_strs_in (w := w2) rfl (.tmp 43) (.tmp 46) rfl w.heap.size (.slice (some ⟨g2, 0, none⟩) (j + 1 + 1) cap2) ((l.take (j + 1)) ++ [x]) rfl hown2 (by simp) ⟨g, j + 1, none⟩ (l.length - (j + 1)) _ (l.drop (j + 1)) Hlen2.out rfl (HC2.out _ (hbel2 w Hb1.out)) (by first | omega | (simp <;> omega)) (hbel2 w Hb1.out).size (l.length + 1) (by rw [List.length_append]; simp only [List.length_singleton]; omega) (putAt l x (j + 1)) (putAt_parts l x _) ?_; intro g3 cap3 w3 hown3 hgr3 hloc3)
            | (at_builtin; refine app_strs_in (w := w2) rfl (.tmp 43) (.tmp 46) rfl w.heap.size (.slice (some ⟨g2, 0, none⟩) (j + 1 + 1) cap2) ((l.take (j + 1)) ++ [x]) rfl hown2 (by simp) _ (l.length - (j + 1)) _ (l.drop (j + 1)) Hlen2.out rfl (fun j u hj => absurd hj (by rw [List.drop_eq_nil_of_le (by omega)]; simp)) (by first | omega | (simp <;> omega)) (hbel2 w Hb1.out).size (l.length + 1) (by rw [List.length_append]; simp only [List.length_singleton]; omega) (putAt l x (j + 1)) (putAt_parts l x _) ?_; intro g3 cap3 w3 hown3 hgr3 hloc3)
            | fail)
          go_ret
          refine ⟨putAt l x (j + 1), g3, cap3, by rw [← e3]; rfl, .inr ⟨j + 1, hcLn, rfl, fun y hy => ?_, fun _ _ => Hx.out⟩, own_mono (by rw [← e3]; exact hown3) hBw, (hbel2 w Hb1.out).grown hgr3 (hbel2 w Hb1.out).size (fun k hk => (World.ownsRow.lt hown2 k hk).1)⟩
          obtain ⟨i, hi, rfl⟩ := List.getElem_of_mem hy
          rw [List.getElem_drop]
          rw [List.length_drop] at hi
          exact Hgt.out _ (by omega) (by omega)
      · have Hx := Lib.hid hx2
        go_wp2
        go_round
        case rel => exact ⟨j, by omega, by go_num, Lib.hid fun i hi h => by
          by_cases e : i = j
          · subst e; exact Hx.out
          · exact Hgt.out i (by omega) h⟩
        case measure => simp [intOf]
      · have hx4 : (l[j].toList == x.toList) = true := by rw [hx3]; exact beq_self_eq_true _
        have Hx := Lib.hid (bytes_eq_of hx4)
        clear hx3
        go_wp2
        go_ret
        exact ⟨l, g, cap, rfl, .inl ⟨rfl, Hx.out ▸ List.getElem_mem _⟩, Hown.out, Below.refl _ _⟩
    · obtain rfl : k = 0 := by omega
      have hcI : (0 : Int) ≤ (cap : Int) := by omega
      have hcL : (0 : Int) ≤ (l.length : Int) := by omega
      have hcLn : 0 ≤ l.length := by omega
      have e3 : l.length + 1 = (putAt l x (0)).length := (putAt_len hcLn).symm
      have hLn : (l.take (0)).length + 1 + (l.length - (0)) = l.length + 1 := by rw [Hlen.out]; omega
      by_cases hcn : cap = 0
      all_goals
        go_wp2_with (first
          | (at_builtin; refine app_strs_in (w := w.alloc (.cells #[] 9)) rfl (.tmp 34) (.tmp 37) rfl w.heap.size (.slice (some ⟨w.heap.size, 0, none⟩) 0 0) [] rfl (OwnS.made w w.heap.size (Nat.le_refl _)) (by simp) ⟨g, 0, none⟩ (0) _ (l.take (0)) Hlen.out rfl HC.out (by first | omega | (simp <;> omega)) (by simp) (0) (by simp) (l.take (0)) rfl ?_; intro g1 cap1 w1 hown1 hgr1 hloc1; have Hb1 := Lib.hid (Below.grown ((Below.refl w.heap.size w).alloc (Nat.le_refl _) (.cells #[] 9)) hgr1 (by simp) (fun k hk => by have : w.heap.size = k := (by simpa [Value.ownBlock] using hk); omega)))
          | (at_builtin; refine app_str_at (w := w1) rfl (.tmp 39) (.tmp 41) rfl w.heap.size (.slice (some ⟨g1, 0, none⟩) (0) cap1) (l.take (0)) rfl hown1 x rfl (by first | omega | (simp <;> omega)) Hb1.out.size ?_; intro g2 cap2 w2 hown2 hbel2 hgr2 hloc2; rw [Hlen.out] at hown2)
          | (at_builtin; refine app_strs_in (w := w2) rfl (.tmp 43) (.tmp 46) rfl w.heap.size (.slice (some ⟨g2, 0, none⟩) 1 cap2) ((l.take (0)) ++ [x]) rfl hown2 (by simp) ⟨g, 0, none⟩ (l.length - (0)) _ (l.drop (0)) Hlen2.out rfl (HC2.out _ (hbel2 w Hb1.out)) (by first | omega | (simp <;> omega)) (hbel2 w Hb1.out).size (l.length + 1) (by rw [List.length_append]; simp only [List.length_singleton]; omega) (putAt l x (0)) (putAt_parts l x _) ?_; intro g3 cap3 w3 hown3 hgr3 hloc3)
          | (at_builtin; refine app_strs_in (w := w2) rfl (.tmp 43) (.tmp 46) rfl w.heap.size (.slice (some ⟨g2, 0, none⟩) 1 cap2) ((l.take (0)) ++ [x]) rfl hown2 (by simp) _ (l.length - (0)) _ (l.drop (0)) Hlen2.out rfl (fun j u hj => absurd hj (by rw [List.drop_eq_nil_of_le (by omega)]; simp)) (by first | omega | (simp <;> omega)) (hbel2 w Hb1.out).size (l.length + 1) (by rw [List.length_append]; simp only [List.length_singleton]; omega) (putAt l x (0)) (putAt_parts l x _) ?_; intro g3 cap3 w3 hown3 hgr3 hloc3)
          | fail)
        go_ret
        refine ⟨putAt l x (0), g3, cap3, by rw [← e3]; rfl, .inr ⟨0, hcLn, rfl, fun y hy => ?_, fun h => by omega⟩, own_mono (by rw [← e3]; exact hown3) hBw, (hbel2 w Hb1.out).grown hgr3 (hbel2 w Hb1.out).size (fun k hk => (World.ownsRow.lt hown2 k hk).1)⟩
        obtain ⟨i, hi, rfl⟩ := List.getElem_of_mem hy
        rw [List.getElem_drop]
        rw [List.length_drop] at hi
        exact Hgt.out _ (by omega) (by omega)
end Go.Proofs.YtndfhmphlomeiaaGreatDoor
/- Appending an affix, a stem, a use to a grammar of the call's own: arms of walks. Condition: Go's own bound on the bytes of a slice. -/
namespace Go.Proofs.YtndfhmphlomeiaaGreatDoor
open Go.RowKit
theorem affL_oneQ {x : AffD} : ∀ u ∈ affL x, u.oneCell' = true := by
  intro u hu
  simp only [affL, List.mem_cons, List.not_mem_nil, or_false] at hu
  rcases hu with rfl | rfl | rfl | rfl | rfl <;> rfl
theorem stm_oneQ {s : ByteArray} {a : Option Addr} {n c : Nat} : ∀ u ∈ [Value.string s, .slice a n c], u.oneCell' = true := by
  intro u hu
  simp only [List.mem_cons, List.not_mem_nil, or_false] at hu
  rcases hu with rfl | rfl <;> rfl
theorem GO.app_affix {ops : Array Oper} {rest : List Oper} {o : Oper} {a : Act} {Q : Exit → Act → World → Prop} {w : World} (hgd : o.guard = none) (s x : Operand)
    (ho : o.op = .call { callee := .builtin .append, args := #[s, x], argTypes := #[24, 24] })
    {B : Nat} {v1 v2 : Value} {X : GraD} {us : List Value} (h : GO w B v1 v2 X us) (hB : B ≤ w.heap.size) (hl : X.affixes.length ≤ 1000) (y : AffD) (E : Nat) (hs : a.eval s = v1) (hx : a.eval x = .slice (some ⟨E, 0, none⟩) 1 1) (hE : w.heap[E]? = some (.cells (affV y) 51 (0, 0)))
    (k : ∀ g cap w', GO w' B (.slice (some ⟨g, 0, none⟩) (X.affixes.length + 1) cap) v2 ⟨X.affixes ++ [y], X.stems⟩ us → w.grownBy w' v1.ownBlock → (v1.ownBlock = some g ∨ g = w.heap.size) → wpList Tryz.prog ops Q rest (a.put o.dst (.slice (some ⟨g, 0, none⟩) (X.affixes.length + 1) cap)) w') :
    wpList Tryz.prog ops Q (o :: rest) a w := by
  obtain ⟨iA, hi, hz0, hz1, hz2⟩ := info_parts infoAffS
  refine wpList_append_lies _ hgd s x 24 ho B 51 iA (.agg #[.string ⟨#[]⟩, .bool false, .string ⟨#[]⟩, .string ⟨#[]⟩, .string ⟨#[]⟩]) 5 72 Tryz.underlying24 hi hz0 hz1 hz2 rfl (by decide) v1 X.affixes.length (X.affixes.flatMap affL) hs h.aff ⟨E, 0, none⟩ 1 1 (affL y) hx rfl
    (World.news_of_block hE) affL_oneQ (by decide) (by unfold maxLen; omega) (by omega) hB _ rfl ?_
  intro g cap w' hown hgr hloc _
  exact k g cap w' (h.affix y g cap hown hgr hloc) hgr hloc
theorem GO.step_affix {ops : Array Oper} {o : Oper} {a : Act} {K : Act → World → Prop} {Q : Exit → Act → World → Prop} {F : Prop} {w : World} (hgd : o.guard = none) (s x : Operand)
    (ho : o.op = .call { callee := .builtin .append, args := #[s, x], argTypes := #[24, 24] })
    {B : Nat} {v1 v2 : Value} {X : GraD} {us : List Value} (h : GO w B v1 v2 X us) (hB : B ≤ w.heap.size) (hl : X.affixes.length ≤ 1000) (y : AffD) (E : Nat) (hs : a.eval s = v1) (hx : a.eval x = .slice (some ⟨E, 0, none⟩) 1 1) (hE : w.heap[E]? = some (.cells (affV y) 51 (0, 0)))
    (k : ∀ g cap w', GO w' B (.slice (some ⟨g, 0, none⟩) (X.affixes.length + 1) cap) v2 ⟨X.affixes ++ [y], X.stems⟩ us → w.grownBy w' v1.ownBlock → (v1.ownBlock = some g ∨ g = w.heap.size) → K (a.put o.dst (.slice (some ⟨g, 0, none⟩) (X.affixes.length + 1) cap)) w') :
    if Region.wanted o (yielded ops a.tmps) = true then Oper.wp Tryz.prog o a w K Q else F := by
  obtain ⟨iA, hi, hz0, hz1, hz2⟩ := info_parts infoAffS
  refine step_append_lies _ hgd s x 24 ho B 51 iA (.agg #[.string ⟨#[]⟩, .bool false, .string ⟨#[]⟩, .string ⟨#[]⟩, .string ⟨#[]⟩]) 5 72 Tryz.underlying24 hi hz0 hz1 hz2 rfl (by decide) v1 X.affixes.length (X.affixes.flatMap affL) hs h.aff ⟨E, 0, none⟩ 1 1 (affL y) hx rfl
    (World.news_of_block hE) affL_oneQ (by decide) (by unfold maxLen; omega) (by omega) hB _ rfl ?_
  intro g cap w' hown hgr hloc _
  exact k g cap w' (h.affix y g cap hown hgr hloc) hgr hloc
theorem GO.app_stem {ops : Array Oper} {rest : List Oper} {o : Oper} {a : Act} {Q : Exit → Act → World → Prop} {w : World} (hgd : o.guard = none) (s x : Operand)
    (ho : o.op = .call { callee := .builtin .append, args := #[s, x], argTypes := #[25, 25] })
    {B : Nat} {v1 v2 : Value} {X : GraD} {us : List Value} (h : GO w B v1 v2 X us) (hB : B ≤ w.heap.size) (hl : X.stems.length ≤ 1000) (y : StemD) (a0 : Option Addr) (n0 c0 : Nat) (E : Nat) (hs : a.eval s = v2) (hx : a.eval x = .slice (some ⟨E, 0, none⟩) 1 1) (hE : w.heap[E]? = some (.cells #[.string y.word, .slice a0 n0 c0] 59 (0, 0)))
    (hu : OwnS w B (.slice a0 n0 c0) y.uses) (hux : ∀ k, (Value.slice a0 n0 c0).ownBlock = some k → v1.ownBlock ≠ some k ∧ v2.ownBlock ≠ some k ∧ ∀ j (_ : j < us.length), us[j].ownBlock ≠ some k)
    (k : ∀ g cap w', GO w' B v1 (.slice (some ⟨g, 0, none⟩) (X.stems.length + 1) cap) ⟨X.affixes, X.stems ++ [y]⟩ (us ++ [.slice a0 n0 c0]) → w.grownBy w' v2.ownBlock → (v2.ownBlock = some g ∨ g = w.heap.size) → wpList Tryz.prog ops Q rest (a.put o.dst (.slice (some ⟨g, 0, none⟩) (X.stems.length + 1) cap)) w') :
    wpList Tryz.prog ops Q (o :: rest) a w := by
  obtain ⟨iA, hi, hz0, hz1, hz2⟩ := info_parts infoStmS
  refine wpList_append_lies _ hgd s x 25 ho B 59 iA (.agg #[.string ⟨#[]⟩, .slice none 0 0]) 2 40 Tryz.underlying25 hi hz0 hz1 hz2 rfl (by decide) v2 X.stems.length ((X.stems.zip us).flatMap stemL) hs h.stm ⟨E, 0, none⟩ 1 1 [.string y.word, .slice a0 n0 c0] hx rfl
    (World.news_of_block hE) stm_oneQ (by decide) (by unfold maxLen; omega) (by omega) hB _ rfl ?_
  intro g cap w' hown hgr hloc _
  exact k g cap w' (h.stem y _ hu hux g cap hown hgr hloc) hgr hloc
theorem GO.step_stem {ops : Array Oper} {o : Oper} {a : Act} {K : Act → World → Prop} {Q : Exit → Act → World → Prop} {F : Prop} {w : World} (hgd : o.guard = none) (s x : Operand)
    (ho : o.op = .call { callee := .builtin .append, args := #[s, x], argTypes := #[25, 25] })
    {B : Nat} {v1 v2 : Value} {X : GraD} {us : List Value} (h : GO w B v1 v2 X us) (hB : B ≤ w.heap.size) (hl : X.stems.length ≤ 1000) (y : StemD) (a0 : Option Addr) (n0 c0 : Nat) (E : Nat) (hs : a.eval s = v2) (hx : a.eval x = .slice (some ⟨E, 0, none⟩) 1 1) (hE : w.heap[E]? = some (.cells #[.string y.word, .slice a0 n0 c0] 59 (0, 0)))
    (hu : OwnS w B (.slice a0 n0 c0) y.uses) (hux : ∀ k, (Value.slice a0 n0 c0).ownBlock = some k → v1.ownBlock ≠ some k ∧ v2.ownBlock ≠ some k ∧ ∀ j (_ : j < us.length), us[j].ownBlock ≠ some k)
    (k : ∀ g cap w', GO w' B v1 (.slice (some ⟨g, 0, none⟩) (X.stems.length + 1) cap) ⟨X.affixes, X.stems ++ [y]⟩ (us ++ [.slice a0 n0 c0]) → w.grownBy w' v2.ownBlock → (v2.ownBlock = some g ∨ g = w.heap.size) → K (a.put o.dst (.slice (some ⟨g, 0, none⟩) (X.stems.length + 1) cap)) w') :
    if Region.wanted o (yielded ops a.tmps) = true then Oper.wp Tryz.prog o a w K Q else F := by
  obtain ⟨iA, hi, hz0, hz1, hz2⟩ := info_parts infoStmS
  refine step_append_lies _ hgd s x 25 ho B 59 iA (.agg #[.string ⟨#[]⟩, .slice none 0 0]) 2 40 Tryz.underlying25 hi hz0 hz1 hz2 rfl (by decide) v2 X.stems.length ((X.stems.zip us).flatMap stemL) hs h.stm ⟨E, 0, none⟩ 1 1 [.string y.word, .slice a0 n0 c0] hx rfl
    (World.news_of_block hE) stm_oneQ (by decide) (by unfold maxLen; omega) (by omega) hB _ rfl ?_
  intro g cap w' hown hgr hloc _
  exact k g cap w' (h.stem y _ hu hux g cap hown hgr hloc) hgr hloc
theorem str_oneQ {s : ByteArray} : ∀ u ∈ [Value.string s], u.oneCell' = true := by
  intro u hu
  rw [List.mem_singleton.1 hu]; rfl
/-- append(list, s): one arm of a walk. -/
theorem app_strQ {ops : Array Oper} {rest : List Oper} {o : Oper} {a : Act} {Q : Exit → Act → World → Prop} {w : World} (hgd : o.guard = none) (s x : Operand)
    (ho : o.op = .call { callee := .builtin .append, args := #[s, x], argTypes := #[35, 35] })
    (B : Nat) (v : Value) (l : List ByteArray) (h : OwnS w B v l) (hB : B ≤ w.heap.size) (hl : l.length ≤ 1000) (y : ByteArray) (E : Nat) (hs : a.eval s = v) (hx : a.eval x = .slice (some ⟨E, 0, none⟩) 1 1) (hE : w.heap[E]? = some (.cells #[.string y] 9 (0, 0)))
    (k : ∀ g cap w', OwnS w' B (.slice (some ⟨g, 0, none⟩) (l.length + 1) cap) (l ++ [y]) → w.grownBy w' v.ownBlock → (v.ownBlock = some g ∨ g = w.heap.size) → wpList Tryz.prog ops Q rest (a.put o.dst (.slice (some ⟨g, 0, none⟩) (l.length + 1) cap)) w') :
    wpList Tryz.prog ops Q (o :: rest) a w := by
  obtain ⟨iA, hi, hz0, hz1, hz2⟩ := info_parts infoStr
  refine wpList_append_lies _ hgd s x 35 ho B 9 iA (.string ⟨#[]⟩) 1 16 Tryz.underlying35 hi hz0 hz1 hz2 rfl (by decide) v l.length (l.map Value.string) hs h ⟨E, 0, none⟩ 1 1 [.string y] hx rfl
    (World.news_of_block hE) str_oneQ (by decide) (by unfold maxLen; omega) (by omega) hB _ rfl ?_
  intro g cap w' hown hgr hloc _
  refine k g cap w' ?_ hgr hloc
  unfold OwnS
  rw [List.length_append, List.map_append]
  exact hown
/-- append(list, s) at a step of a region that draws its order. -/
theorem step_strQ {ops : Array Oper} {o : Oper} {a : Act} {K : Act → World → Prop} {Q : Exit → Act → World → Prop} {F : Prop} {w : World} (hgd : o.guard = none) (s x : Operand)
    (ho : o.op = .call { callee := .builtin .append, args := #[s, x], argTypes := #[35, 35] })
    (B : Nat) (v : Value) (l : List ByteArray) (h : OwnS w B v l) (hB : B ≤ w.heap.size) (hl : l.length ≤ 1000) (y : ByteArray) (E : Nat) (hs : a.eval s = v) (hx : a.eval x = .slice (some ⟨E, 0, none⟩) 1 1) (hE : w.heap[E]? = some (.cells #[.string y] 9 (0, 0)))
    (k : ∀ g cap w', OwnS w' B (.slice (some ⟨g, 0, none⟩) (l.length + 1) cap) (l ++ [y]) → w.grownBy w' v.ownBlock → (v.ownBlock = some g ∨ g = w.heap.size) → K (a.put o.dst (.slice (some ⟨g, 0, none⟩) (l.length + 1) cap)) w') :
    if Region.wanted o (yielded ops a.tmps) = true then Oper.wp Tryz.prog o a w K Q else F := by
  obtain ⟨iA, hi, hz0, hz1, hz2⟩ := info_parts infoStr
  refine step_append_lies _ hgd s x 35 ho B 9 iA (.string ⟨#[]⟩) 1 16 Tryz.underlying35 hi hz0 hz1 hz2 rfl (by decide) v l.length (l.map Value.string) hs h ⟨E, 0, none⟩ 1 1 [.string y] hx rfl
    (World.news_of_block hE) str_oneQ (by decide) (by unfold maxLen; omega) (by omega) hB _ rfl ?_
  intro g cap w' hown hgr hloc _
  refine k g cap w' ?_ hgr hloc
  unfold OwnS
  rw [List.length_append, List.map_append]
  exact hown
end Go.Proofs.YtndfhmphlomeiaaGreatDoor
/- l03Insert of the reference into any list of the call's own, nil among them. Condition: at most 2^20 strings. -/
namespace Go.Proofs.YtndfhmphlomeiaaGreatDoor
open Go.RowKit
theorem nil_strsQ (w : World) : Strs w (.slice none 0 0) [] := ⟨⟨rfl, none, 0, rfl, Nat.le_refl _, by unfold maxLen; omega, fun j u h => by simp at h⟩, by simp⟩
attribute [local irreducible] Calls
set_option maxHeartbeats 4000000 in
set_option maxRecDepth 20000 in
theorem insertNil_any (x : ByteArray) (w : World) :
    Calls Tryz.prog 56 #[.slice none 0 0, .string x] w fun e w' => ∃ g' cap', e = .returned (.slice (some ⟨g', 0, none⟩) 1 cap') ∧ OwnS w' w.heap.size (.slice (some ⟨g', 0, none⟩) 1 cap') [x] ∧ Below w.heap.size w w' := by
  go_enter Tryz.func56, Tryz.ntmps56
  go_wp2
  refine wp_loop_rounds 1 ?_
  rw [rounds_succ]
  go_wp2_with (first
    | (at_builtin; refine app_lst (w := w.alloc (.cells #[] 9)) rfl (.tmp 34) (.tmp 37) rfl w.heap.size w.heap.size 0 0 [] rfl rfl (OwnS.made w w.heap.size (Nat.le_refl _)) none 0 0 [] rfl (nil_strsQ _) (by simp) (by simp) 0 (by simp) [] rfl ?_; intro g1 cap1 w1 hown1 hgr1 hloc1; have Hb1 := Lib.hid (Below.grown ((Below.refl w.heap.size w).alloc (Nat.le_refl _) (.cells #[] 9)) hgr1 (by simp) (fun k hk => by have : w.heap.size = k := Option.some.inj hk; omega)))
    | (at_builtin; refine app_str_at (w := w1) rfl (.tmp 39) (.tmp 41) rfl w.heap.size (.slice (some ⟨g1, 0, none⟩) 0 cap1) [] rfl hown1 x rfl (by simp) Hb1.out.size ?_; intro g2 cap2 w2 hown2 hbel2 hgr2 hloc2)
    | (at_builtin; refine app_lst (w := w2) rfl (.tmp 43) (.tmp 46) rfl w.heap.size g2 1 cap2 [x] rfl rfl hown2 none 0 0 [] rfl (nil_strsQ _) (by simp) (hbel2 w Hb1.out).size 1 (by simp) [x] (by simp) ?_; intro g3 cap3 w3 hown3 hgr3 hloc3)
    | fail)
  go_ret
  exact ⟨g3, cap3, rfl, hown3, (hbel2 w Hb1.out).grown hgr3 (hbel2 w Hb1.out).size (fun k hk => (World.ownsRow.lt hown2 k hk).1)⟩
/-- Into any list. -/
theorem insertO_any (B : Nat) (v : Value) (l : List ByteArray) (x : ByteArray) (w : World) (hl : l.length ≤ 1048576) (hBw : B ≤ w.heap.size) (hown : OwnS w B v l) :
    Calls Tryz.prog 56 #[v, .string x] w fun e w' => ∃ l2 g' cap', e = .returned (.slice (some ⟨g', 0, none⟩) l2.length cap') ∧ InsTo l x l2 ∧ OwnS w' B (.slice (some ⟨g', 0, none⟩) l2.length cap') l2 ∧ Below w.heap.size w w' := by
  have ho := hown
  obtain ⟨h1, h2⟩ := hown
  rcases h2 with ⟨rfl, h0⟩ | ⟨g, cap, cur, rfl, h2⟩
  · obtain rfl : l = [] := List.eq_nil_of_length_eq_zero h0
    refine (insertNil_any x w).mono ?_
    rintro e w' ⟨g', cap', rfl, h3, h4⟩
    exact ⟨[x], g', cap', rfl, .inr ⟨0, Nat.le_refl _, rfl, by simp, fun h => by omega⟩, own_mono h3 hBw, h4⟩
  · exact insertG_any B g cap l x w hl hBw ho
end Go.Proofs.YtndfhmphlomeiaaGreatDoor
/- A drawn affix, with the sizes of a valid one. Condition: few choices so far. -/
namespace Go.Proofs.YtndfhmphlomeiaaGreatDoor
open Go.RowKit
theorem drawRow4 (r : Nat) (h : r < 9) : ∃ x : AffD, AffLim x 4 ∧ drawRow[r * 5]? = some (.string x.name) ∧ drawRow[r * 5 + 1]? = some (.bool x.front) ∧ drawRow[r * 5 + 2]? = some (.string x.cond) ∧ drawRow[r * 5 + 3]? = some (.string x.strip) ∧ drawRow[r * 5 + 4]? = some (.string x.add) := by
  match r, h with
  | 0, _ | 1, _ | 2, _ | 3, _ | 4, _ | 5, _ | 6, _ | 7, _ | 8, _ => exact ⟨⟨_, _, _, _, _⟩, ⟨by decide, by decide, by decide, by decide⟩, rfl, rfl, rfl, rfl, rfl⟩
attribute [local irreducible] Calls
set_option maxHeartbeats 4000000 in
set_option maxRecDepth 20000 in
theorem drawAffixS_any (g : Nat) (bs : List UInt8) (k : Nat) (w : World) (hs : SrcW w g bs k) (hk : k ≤ 100000) :
    Calls Tryz.prog 54 #[.pointer (some ⟨g, 0, none⟩)] w fun e w' => ∃ (x : AffD) (k' : Nat), e = .returned (.agg #[.string x.name, .bool x.front, .string x.cond, .string x.strip, .string x.add]) ∧ AffS x ∧ k' ≤ k + 4 ∧ SrcW w' g bs k' ∧ Kept g (g + 1) w w' := by
  have hgl := hs.lt
  have hb0 : Below w.heap.size w ((w.alloc (.cells affNil 51)).alloc (.cells drawRow 51)) := ((Below.refl _ _).alloc (Nat.le_refl _) _).alloc (by simp) _
  have rA := heap_alloc2_old w (.cells affNil 51) (.cells drawRow 51)
  have rB := heap_alloc2_new w (.cells affNil 51) (.cells drawRow 51)
  go_enter Tryz.func54, Tryz.ntmps54
  go_wp2_with fail
  refine (pick_any g bs k 9 _ _ (hs.below (((Below.refl _ _).alloc (Nat.le_refl _) _).alloc (by simp) _)) (by omega) rfl (by omega)).mono ?_
  rintro e w1 ⟨r, k1, rfl, hr, hk1, hs1, hkk1⟩
  have hkk1 : Kept g (g + 1) ((w.alloc (.cells affNil 51)).alloc (.cells drawRow 51)) w1 := hkk1
  have hr9 : r < 9 := by omega
  have hrI : (r : Int) < 9 := by omega
  obtain ⟨x, hx, q0, q1, q2, q3, q4⟩ := drawRow4 r hr9
  have hrow := (hkk1.block (w.heap.size + 1) (by simp) (.inr (by omega))).trans rB
  have hres := (hkk1.block w.heap.size (by simp; omega) (.inr (by omega))).trans rA
  have hz1 : w.heap.size + 2 ≤ w1.heap.size := by have := hkk1.size; simpa using this
  have K1 := Lib.hid ((Kept.of_below (lo := g) (hi := g + 1) hb0).trans hkk1)
  have HS1 := Lib.hid hs1
  have HRes := Lib.hid hres
  have d0 := (src_cell hrow q0).1
  have d1 := (src_cell hrow q1).1
  have d2 := (src_cell hrow q2).1
  have d3 := (src_cell hrow q3).1
  have d4 := (src_cell hrow q4).1
  have HX := Lib.hid hx
  clear hkk1 rA rB hb0 hrow hres hs1 q0 q1 q2 q3 q4 hs hx
  go_wp2_with fail
  have hb1 : Below w1.heap.size w1 ((w1.alloc (.cells (affV x) 51)).alloc (.cells (([⟨#[112, 108, 117, 114, 97, 108]⟩, ⟨#[97, 99, 116]⟩, ⟨#[101, 114]⟩, ⟨#[114, 101]⟩, ⟨#[117, 110]⟩, ⟨#[120]⟩] : List ByteArray).map Value.string).toArray 9)) := ((Below.refl _ _).alloc (Nat.le_refl _) _).alloc (by simp) _
  have HB1 := Lib.hid hb1
  have hst := strs_built (w1.alloc (.cells (affV x) 51)) [⟨#[112, 108, 117, 114, 97, 108]⟩, ⟨#[97, 99, 116]⟩, ⟨#[101, 114]⟩, ⟨#[114, 101]⟩, ⟨#[117, 110]⟩, ⟨#[120]⟩] (by decide)
  have rB := heap_alloc2_old w1 (.cells (affV x) 51) (.cells (([⟨#[112, 108, 117, 114, 97, 108]⟩, ⟨#[97, 99, 116]⟩, ⟨#[101, 114]⟩, ⟨#[114, 101]⟩, ⟨#[117, 110]⟩, ⟨#[120]⟩] : List ByteArray).map Value.string).toArray 9)
  rw [World.size_alloc] at hst
  refine (text_any g bs k1 _ [⟨#[112, 108, 117, 114, 97, 108]⟩, ⟨#[97, 99, 116]⟩, ⟨#[101, 114]⟩, ⟨#[114, 101]⟩, ⟨#[117, 110]⟩, ⟨#[120]⟩] _ (HS1.out.below hb1) (by omega) hst (by decide) (by decide) (fun a n c e p hp => ?_)).mono ?_
  · cases e; cases hp; show w1.heap.size + 1 ≠ g; omega
  rintro e w2 ⟨t, k2, rfl, htm, hk2, hs2, hkk2⟩
  have ht20 : 1 ≤ t.size ∧ t.size ≤ 12 := by
    simp only [List.mem_cons, List.not_mem_nil, or_false] at htm
    rcases htm with rfl | rfl | rfl | rfl | rfl | rfl <;> decide
  have hkk2 : Kept g (g + 1) ((w1.alloc (.cells (affV x) 51)).alloc (.cells (([⟨#[112, 108, 117, 114, 97, 108]⟩, ⟨#[97, 99, 116]⟩, ⟨#[101, 114]⟩, ⟨#[114, 101]⟩, ⟨#[117, 110]⟩, ⟨#[120]⟩] : List ByteArray).map Value.string).toArray 9)) w2 := hkk2
  have hbox := (hkk2.block w1.heap.size (by simp; omega) (.inr (by omega))).trans rB
  have hres := ((hkk2.block w.heap.size (by simp; omega) (.inr (by omega))).trans (HB1.out.block w.heap.size (by omega))).trans HRes.out
  have K2 := Lib.hid ((K1.out.trans (Kept.of_below (lo := g) (hi := g + 1) HB1.out)).trans hkk2)
  have HS2 := Lib.hid hs2
  have hz2 : w1.heap.size + 2 ≤ w2.heap.size := by have := hkk2.size; simpa using this
  have HBox := Lib.hid hbox
  have HRes2 := Lib.hid hres
  obtain ⟨e0, z0⟩ := src_cell (i := 0) (v := .string x.name) hbox rfl
  obtain ⟨e1, z1⟩ := src_cell (i := 1) (v := .bool x.front) hbox rfl
  obtain ⟨e2, z2⟩ := src_cell (i := 2) (v := .string x.cond) hbox rfl
  obtain ⟨e3, z3⟩ := src_cell (i := 3) (v := .string x.strip) hbox rfl
  obtain ⟨e4, z4⟩ := src_cell (i := 4) (v := .string x.add) hbox rfl
  obtain ⟨a0, y0⟩ := src_cell (i := 0) (v := .string ⟨#[]⟩) hres rfl
  obtain ⟨a1, y1⟩ := src_cell (i := 1) (v := .bool false) hres rfl
  obtain ⟨a2, y2⟩ := src_cell (i := 2) (v := .string ⟨#[]⟩) hres rfl
  obtain ⟨a3, y3⟩ := src_cell (i := 3) (v := .string ⟨#[]⟩) hres rfl
  obtain ⟨a4, y4⟩ := src_cell (i := 4) (v := .string ⟨#[]⟩) hres rfl
  have hne : ¬ (w1.heap.size = w.heap.size) := by omega
  have hne2 : ¬ (w.heap.size = w1.heap.size) := by omega
  clear hkk2 rB hb1 hst hbox hres hs2 htm d0 d1 d2 d3 d4
  go_wp2
  have hr3 : (w2.setCell ⟨w1.heap.size, 0, none⟩ (.string t)).heap[w.heap.size]? = some (.cells affNil 51 (0, 0)) := (Below.heap_setCell _ _ _ _ (by show w.heap.size ≠ w1.heap.size; omega)).trans HRes2.out
  have st := store5 hr3 (.string t) (.bool x.front) (.string x.cond) (.string x.strip) (.string x.add)
  have hk3 : Kept w1.heap.size (w1.heap.size + 1) w2 (w2.setCell ⟨w1.heap.size, 0, none⟩ (.string t)) := kept_setCell (Nat.le_refl _) (Nat.lt_succ_self _) _
  have hz3 := hk3.size
  refine bodyPost_ret (v := .agg #[.string t, .bool x.front, .string x.cond, .string x.strip, .string x.add]) (results_cell_row (p := 2) (ty := 51) rfl _ _ w.heap.size _ _ _ _ rfl st.1 Tryz.underlying51 rfl infoAffix) rfl
    ⟨{ x with name := t }, k2, rfl, ⟨ht20, HX.out.c, HX.out.s, HX.out.a⟩, by omega, (HS2.out.low (hk3.below (by omega) (by omega))).low (st.2.1.below (by omega) (by omega)), (K2.out.then_new hk3 (by omega)).then_new st.2.1 (Nat.le_refl _)⟩
end Go.Proofs.YtndfhmphlomeiaaGreatDoor
/- Small laws for the walks of the drawn grammars. No condition. -/
namespace Go.Proofs.YtndfhmphlomeiaaGreatDoor
open Go.RowKit
def wordL : List ByteArray := [⟨#[116, 101, 115, 116]⟩, ⟨#[116, 97, 110]⟩, ⟨#[97, 116]⟩, ⟨#[114, 97, 116, 101]⟩, ⟨#[99, 105, 116, 121]⟩, ⟨#[115, 101, 97, 116]⟩, ⟨#[97, 98, 99, 100, 101, 102, 103, 104, 105, 106, 107]⟩, ⟨#[116, 101, 110]⟩, ⟨#[97, 110]⟩]
theorem wordL_le : ∀ s ∈ wordL, 2 ≤ s.size ∧ s.size ≤ 12 := by decide
theorem wordL_max : ∀ s ∈ wordL, s.size ≤ maxLen := fun s h => max12 (by have := wordL_le s h; omega)
def WordsS (a : Nat) (l : List ByteArray) : Prop := ∀ s ∈ l, a ≤ s.size ∧ s.size ≤ 12
theorem WordsS.ins {a : Nat} {l l2 : List ByteArray} {x : ByteArray} (h : WordsS a l) (hx : a ≤ x.size ∧ x.size ≤ 12) (hi : InsTo l x l2) : WordsS a l2 := fun s hs => by
  rcases (hi.mem s).1 hs with rfl | hs
  · exact hx
  · exact h s hs
theorem one_belowQ (w : World) (a : Obj) : Below w.heap.size w (w.alloc a) := (Below.refl _ _).alloc (Nat.le_refl _) a
theorem cell_allocQ {w : World} {a : Addr} {x : Value} (o : Obj) (h : w.cell? a = some x) : (w.alloc o).cell? a = some x :=
  (World.cell?_alloc_lt _ _ _ (World.block_lt_of_cell? w a h)).trans h
theorem cell_blockQ {w w' : World} {b o : Nat} {u : Value} (h : w'.heap[b]? = w.heap[b]?) (hc : w.cell? ⟨b, o, none⟩ = some u) : w'.cell? ⟨b, o, none⟩ = some u := by
  rw [← hc]; simp only [World.cell?, h]
theorem KeepQ.cell {B gb g : Nat} {w w' : World} (h : KeepQ B gb g w w') {b o : Nat} {u : Value} (hb : b < B) (hn : b ≠ gb) (hn2 : b ≠ g) (hc : w.cell? ⟨b, o, none⟩ = some u) : w'.cell? ⟨b, o, none⟩ = some u := cell_blockQ (h.block b hb hn hn2) hc
theorem cell_setQ {w : World} {b o g o2 : Nat} {u v : Value} (h : g ≠ b) (hc : w.cell? ⟨b, o, none⟩ = some u) : (w.setCell ⟨g, o2, none⟩ v).cell? ⟨b, o, none⟩ = some u := cell_blockQ (Below.heap_setCell _ _ _ _ (show b ≠ g from fun e => h e.symm)) hc
theorem GO.affs {w : World} {B v1 v2 x us} (h : GO w B v1 v2 x us) (hn : GraN x) : Affs w v1 x.affixes := ⟨(own_SlW h.aff).read, hn.af⟩
/-- string([]byte{x, y, z}). -/
theorem conv3 (w : World) (a b c : UInt8) (x y z : Int) (hx : x = a.toNat) (hy : y = b.toNat) (hz : z = c.toNat) :
    (convert 22 9 (.slice (some ⟨w.heap.size, 0, none⟩) 3 3)).run Tryz.prog (w.alloc (.cells #[.int .u8 x, .int .u8 y, .int .u8 z] 5)) = .ok (.string ⟨#[a, b, c]⟩) (w.alloc (.cells #[.int .u8 x, .int .u8 y, .int .u8 z] 5)) := by
  subst hx hy hz
  refine run_convert_bytes_back _ _ _ 5 ⟨w.heap.size, 0, none⟩ 3 [a, b, c] Tryz.underlying22 Tryz.underlying5 Tryz.underlying9 ?_
  intro j hj
  rw [add_pl, Nat.zero_add]
  match j, hj with
  | 0, _ | 1, _ | 2, _ => exact cell_newD w _ _ _ _ rfl
/-- string([]byte{x}). -/
theorem conv1 (w : World) (a : UInt8) (x : Int) (hx : x = a.toNat) :
    (convert 22 9 (.slice (some ⟨w.heap.size, 0, none⟩) 1 1)).run Tryz.prog (w.alloc (.cells #[.int .u8 x] 5)) = .ok (.string ⟨#[a]⟩) (w.alloc (.cells #[.int .u8 x] 5)) := by
  subst hx
  refine run_convert_bytes_back _ _ _ 5 ⟨w.heap.size, 0, none⟩ 1 [a] Tryz.underlying22 Tryz.underlying5 Tryz.underlying9 ?_
  intro j hj
  rw [add_pl, Nat.zero_add]
  match j, hj with
  | 0, _ => exact cell_newD w _ _ _ _ rfl
def ReadG (B : Nat) (w' : World) (v1 v2 : Value) : Prop := ∃ x, GraW w' B w'.heap.size (.agg #[v1, v2]) x ∧ GraN x
end Go.Proofs.YtndfhmphlomeiaaGreatDoor
/- A slice of bytes as an argument. No condition. -/
namespace Go.Proofs.YtndfhmphlomeiaaGreatDoor
open Go.ChangeShapes Go.WideShapes Go.ChangeAt Go.RowKit
theorem cell_plainB {w : World} {a : Addr} {v : Value} (h : w.cell? a = some v) : ∃ b off, a = ⟨b, off, none⟩ := by
  obtain ⟨b, off, s⟩ := a
  cases s with
  | none => exact ⟨b, off, rfl⟩
  | some s => simp [World.cell?] at h; split at h <;> simp_all
theorem add_plainB (b off i : Nat) : (⟨b, off, none⟩ : Addr).add i = ⟨b, off + i, none⟩ := by unfold Addr.add; split <;> simp_all
/-- A slice of bytes. -/
def BytesR (w : World) (v : Value) (bs : List UInt8) : Prop := SlR w 1 v bs.length (bs.map fun b => Value.int .u8 b.toNat)
set_option maxRecDepth 100000 in
theorem open_bytes {H : Type} {enc : TypeId × Value → H} {W : World} {b0 : Nat} {held : Bool} {v : Value} {d : DataW H} {p : List MemPlace}
    (hv : Value.okWide Tryz.prog W .any b0 22 v) (h : DataW.Trod enc Tryz.prog W 0 (fun _ => true) held 22 v d p) : ∃ bs, BytesR W v bs := by
  obtain ⟨a1, len1, cap1, rfl⟩ := okWide_slice Tryz.underlying22 hv
  obtain ⟨fuel, hf⟩ := h
  rcases open_ints Tryz.underlying22 Tryz.underlying5 (by kernel_rfl) hf with ⟨h1, _⟩ | ⟨a, len, cap, ss, h1, _, h2, h3, h4, _, h5, h6⟩
  · obtain ⟨rfl, rfl, rfl⟩ : a1 = none ∧ len1 = 0 ∧ cap1 = 0 := by simpa [Value.cells] using h1
    exact ⟨[], rfl, none, 0, rfl, Nat.le_refl _, by unfold maxLen; omega, fun j u hj => by simp at hj⟩
  · obtain ⟨rfl, rfl, rfl⟩ : a1 = some a ∧ len1 = len ∧ cap1 = cap := by simpa [Value.cells] using h1
    have h4' : ss.length = cap1 := by simpa using h4
    have hr : ∀ z ∈ ss, 0 ≤ z ∧ z < 256 := by
      intro z hz
      have := h6 z hz
      simp only [Lit.wf, Bool.and_eq_true, decide_eq_true_eq] at this
      have h2 : 0 ≤ z ∧ z ≤ 255 := this
      omega
    have hln : ((ss.take len1).map fun z => UInt8.ofNat z.toNat).length = len1 := by simp; omega
    refine ⟨(ss.take len1).map fun z => UInt8.ofNat z.toNat, by simp, some a, cap1, by rw [hln], by omega, h3, fun j u hj => ?_⟩
    have hjl : j < len1 := by have := (List.getElem?_eq_some_iff.1 hj).1; simp at this; omega
    have hc5 := h5 j (by omega)
    have hc0 := h5 0 (by omega)
    obtain ⟨b0, off0, rfl⟩ : ∃ b0 off0, a = ⟨b0, off0, none⟩ := by
      obtain ⟨b0, off0, s0⟩ := a
      cases s0 with
      | none => exact ⟨_, _, rfl⟩
      | some s0 => obtain ⟨b, off, hb⟩ := cell_plainB hc0; simp [Addr.add] at hb
    refine ⟨b0, off0, rfl, ?_⟩
    rw [add_plainB] at hc5
    rw [hc5]
    have hz := hr _ (List.getElem_mem (show j < ss.length by omega))
    rw [List.getElem?_map, List.getElem?_map, List.getElem?_take, if_pos hjl, List.getElem?_eq_getElem (by omega)] at hj
    simp only [Option.map_some, Option.some.injEq] at hj
    rw [← hj, List.getD_eq_getElem?_getD, List.getElem?_eq_getElem (by omega)]
    simp only [Option.getD_some, Option.some.injEq, Value.int.injEq, true_and]
    rw [UInt8.toNat_ofNat']
    omega
theorem BytesR.below {w w' : World} {v bs} (h : BytesR w v bs) (hb : Below w.heap.size w w') : BytesR w' v bs := SlR.below h hb
theorem BytesR.shape {w : World} {v bs} (h : BytesR w v bs) : ∃ a c, v = .slice a bs.length c ∧ bs.length ≤ c ∧ c ≤ maxLen := by
  obtain ⟨_, a, c, h1, h2, h3, _⟩ := h; exact ⟨a, c, h1, h2, h3⟩
end Go.Proofs.YtndfhmphlomeiaaGreatDoor
/- GrammarText of the reference. No condition but the readings. -/
namespace Go.Proofs.YtndfhmphlomeiaaGreatDoor
open Go.RowKit
theorem ba_size {r : ByteArray} {l : List UInt8} (h : r.data.toList = l) : r.size = l.length := by subst h; exact Array.length_toList.symm
theorem ba_eq {r : ByteArray} {l : List UInt8} (h : r.data.toList = l) : r = ⟨l.toArray⟩ := by subst h; rfl
attribute [local irreducible] Calls
theorem l04Part_any (s : ByteArray) (w : World) : Calls Tryz.prog 57 #[.string s] w fun e w' => e = .returned (.string (dashB s)) ∧ w = w' := by
  cases h : s.toList.isEmpty
  · have H := Lib.hid (show dashB s = s by simp [dashB, h])
    go_enter Tryz.func57, Tryz.ntmps57
    go_wp2
    go_ret
    exact ⟨ret_str H.out.symm, rfl⟩
  · have H := Lib.hid (show dashB s = ⟨#[45]⟩ by simp [dashB, h])
    go_enter Tryz.func57, Tryz.ntmps57
    go_wp2
    go_ret
    exact ⟨ret_str H.out.symm, rfl⟩
theorem l04Part_is {s r : ByteArray} (h : dashB s = r) (w : World) : Calls Tryz.prog 57 #[.string s] w fun e w' => e = .returned (.string r) ∧ w = w' := h ▸ l04Part_any s w
set_option maxHeartbeats 8000000 in
set_option maxRecDepth 20000 in
theorem l04Text_any (g : Nat) (s1 s2 : Value) (x : GraD) (w : World) (hx : GraBox w g s1 s2 x) (hS : GraS x) :
    Calls Tryz.prog 29 #[.pointer (some ⟨g, 0, none⟩)] w fun e w' => e = .returned (.string ⟨(textG x).toArray⟩) ∧ ∃ q, w' = w.drewN q := by
  obtain ⟨h0, h1, ha, hs⟩ := hx
  obtain ⟨a1, k1, rfl, hl1, hk1, hcs1⟩ := ha.shape
  obtain ⟨a2, k2, rfl, hl2, hk2, hcs2⟩ := hs.shape
  unfold maxLen at hk1 hk2
  have HS := Lib.hid hS
  have hn12 := hS.a
  have hn30 := hS.s
  have HC1 := Lib.hid hcs1
  have HC2 := Lib.hid hcs2
  clear ha hs hS hcs1 hcs2
  go_enter Tryz.func29, Tryz.ntmps29
  go_wp2
  go_loopw [3, 4] (fun out i wr => ∃ (j q : Nat) (r : ByteArray), j ≤ x.affixes.length ∧ i = .int .i64 (j : Int) ∧ out = .string r ∧ Hid (r.data.toList = (x.affixes.take j).flatMap affT) ∧ Hid (wr = w.drewN q)) (fun _ i _ => x.affixes.length - (intOf i).toNat)
  case atStart => exact ⟨0, 0, ⟨#[]⟩, by omega, rfl, rfl, Lib.hid (by simp), Lib.hid rfl⟩
  case round =>
    obtain ⟨j, q, r, hj, rfl, rfl, HR, HW⟩ := hrel
    have h02 : wr.cell? ⟨g, 0, none⟩ = some (.slice a1 x.affixes.length k1) := by rw [HW.out]; exact h0
    have h12 : wr.cell? ⟨g, 1, none⟩ = some (.slice a2 x.stems.length k2) := by rw [HW.out]; exact h1
    have hrs : r.size ≤ 576 := by rw [ba_size HR.out]; exact affs_le HS.out j
    by_cases hlt : j < x.affixes.length
    · obtain ⟨b1, o1, rfl, e0, e1, e2, e3, e4, -⟩ := HC1.out j hlt
      have hA := HS.out.afs j hlt
      obtain ⟨p1, hp1⟩ : ∃ p1, dashB x.affixes[j].cond = p1 := ⟨_, rfl⟩
      obtain ⟨p2, hp2⟩ : ∃ p2, dashB x.affixes[j].strip = p2 := ⟨_, rfl⟩
      obtain ⟨p3, hp3⟩ : ∃ p3, dashB x.affixes[j].add = p3 := ⟨_, rfl⟩
      have hs1 : p1.size ≤ 4 := hp1 ▸ dashB_le hA.c
      have hs2 : p2.size ≤ 4 := hp2 ▸ dashB_le hA.s
      have hs3 : p3.size ≤ 4 := hp3 ▸ dashB_le hA.a
      have hs0 := hA.n.2
      have e0 : wr.cell? ⟨b1, o1 + j * 5, none⟩ = some (.string x.affixes[j].name) := by rw [HW.out]; exact e0
      have e1 : wr.cell? ⟨b1, o1 + j * 5 + 1, none⟩ = some (.bool x.affixes[j].front) := by rw [HW.out]; exact e1
      have e2 : wr.cell? ⟨b1, o1 + j * 5 + 2, none⟩ = some (.string x.affixes[j].cond) := by rw [HW.out]; exact e2
      have e3 : wr.cell? ⟨b1, o1 + j * 5 + 3, none⟩ = some (.string x.affixes[j].strip) := by rw [HW.out]; exact e3
      have e4 : wr.cell? ⟨b1, o1 + j * 5 + 4, none⟩ = some (.string x.affixes[j].add) := by rw [HW.out]; exact e4
      have HP := Lib.hid (And.intro hp1 (And.intro hp2 hp3))
      clear hA hp1 hp2 hp3
      cases hf : x.affixes[j].front
      all_goals
        have HF := Lib.hid hf
        rw [hf] at e1
        clear hf
        go_wp2
        go_quiet ((go_at_call 57; first | exact quiet_eq (l04Part_is HP.out.1 _) | exact quiet_eq (l04Part_is HP.out.2.1 _) | exact quiet_eq (l04Part_is HP.out.2.2 _)))
        go_wp2
        go_roundw
      all_goals first
        | exact ⟨j + 1, q + nq, _, by omega, by go_num, rfl, Lib.hid (by rw [flat_snoc _ _ _ hlt, affT, HF.out, HP.out.1, HP.out.2.1, HP.out.2.2]; simp [HR.out, sideB]), Lib.hid (by rw [HW.out, drewN_two])⟩
        | (simp [intOf]; omega)
    · obtain rfl : j = x.affixes.length := by omega
      have HR1 : Hid (r.data.toList = x.affixes.flatMap affT ++ (x.stems.take 0).flatMap stmT) := Lib.hid (by rw [HR.out, flat_all]; simp)
      clear HR
      go_wp2
      go_loopw [3, 7] (fun out i wr => ∃ (j q : Nat) (r : ByteArray), j ≤ x.stems.length ∧ i = .int .i64 (j : Int) ∧ out = .string r ∧ Hid (r.data.toList = x.affixes.flatMap affT ++ (x.stems.take j).flatMap stmT) ∧ Hid (wr = w.drewN q)) (fun _ i _ => x.stems.length - (intOf i).toNat)
      case atStart => exact ⟨0, q, r, by omega, rfl, rfl, HR1, HW⟩
      case round =>
        obtain ⟨j, q, r, hj, rfl, rfl, HR, HW⟩ := hrel
        have h02 : wr.cell? ⟨g, 0, none⟩ = some (.slice a1 x.affixes.length k1) := by rw [HW.out]; exact h0
        have h12 : wr.cell? ⟨g, 1, none⟩ = some (.slice a2 x.stems.length k2) := by rw [HW.out]; exact h1
        have hrs : r.size ≤ 5976 := by
          rw [ba_size HR.out, List.length_append, ← flat_all affT]
          have := affs_le HS.out x.affixes.length
          have := stms_le HS.out j
          omega
        by_cases hlt : j < x.stems.length
        · obtain ⟨b2, o2, u, rfl, e0, e1, -, hu⟩ := HC2.out j hlt
          obtain ⟨ua, uc, rfl, hul, huc, hcu⟩ := hu.shape
          have hM := HS.out.sts j hlt
          have hs0 := hM.w.2
          have hsu := hM.u
          have HM := Lib.hid hM
          have HCU := Lib.hid hcu
          have e0 : wr.cell? ⟨b2, o2 + j * 2, none⟩ = some (.string x.stems[j].word) := by rw [HW.out]; exact e0
          have E1 := Lib.hid e1
          have e1 : wr.cell? ⟨b2, o2 + j * 2 + 1, none⟩ = some (.slice ua x.stems[j].uses.length uc) := by rw [HW.out]; exact e1
          unfold maxLen at huc
          clear hM hu hcu
          have HR2 : Hid ((r ++ (({ data := #[115, 116, 101, 109, 32] } : ByteArray) ++ x.stems[j].word)).data.toList = x.affixes.flatMap affT ++ (x.stems.take j).flatMap stmT ++ ([115, 116, 101, 109, 32] ++ x.stems[j].word.data.toList) ++ usesT (x.stems[j].uses.take 0)) := Lib.hid (by simp [HR.out, usesT])
          go_wp2
          go_loopw [3, 8] (fun out i wr => ∃ (k q : Nat) (r : ByteArray), k ≤ x.stems[j].uses.length ∧ i = .int .i64 (k : Int) ∧ out = .string r ∧ Hid (r.data.toList = x.affixes.flatMap affT ++ (x.stems.take j).flatMap stmT ++ ([115, 116, 101, 109, 32] ++ x.stems[j].word.data.toList) ++ usesT (x.stems[j].uses.take k)) ∧ Hid (wr = w.drewN q)) (fun _ i _ => x.stems[j].uses.length - (intOf i).toNat)
          case atStart => exact ⟨0, q, _, by omega, rfl, rfl, HR2, HW⟩
          case round =>
            clear HR HR2 e0 e1 h02 h12 HW
            obtain ⟨k, q, r, hk, rfl, rfl, HR, HW⟩ := hrel
            have h12 : wr.cell? ⟨g, 1, none⟩ = some (.slice (some ⟨b2, o2, none⟩) x.stems.length k2) := by rw [HW.out]; exact h1
            have e1 : wr.cell? ⟨b2, o2 + j * 2 + 1, none⟩ = some (.slice ua x.stems[j].uses.length uc) := by rw [HW.out]; exact E1.out
            have hrs : r.size ≤ 7000 := by
              rw [ba_size HR.out]
              have h1 := affs_le HS.out x.affixes.length
              have h2 := stms_le HS.out j
              have h3 := usesT_le (l := x.stems[j].uses.take k) fun y hy => (HM.out.n y (List.mem_of_mem_take hy)).2
              rw [flat_all] at h1
              have h4 := HM.out.u
              have h5 := HM.out.w
              rw [List.length_take] at h3
              simp only [List.length_append, List.length_cons, List.length_nil, Array.length_toList] at h1 h2 h3 ⊢
              have h6 : x.stems[j].word.data.size ≤ 12 := h5.2
              omega
            by_cases hkl : k < x.stems[j].uses.length
            · obtain ⟨b3, o3, rfl, hc3, -⟩ := HCU.out k hkl
              have hc3 : wr.cell? ⟨b3, o3 + k, none⟩ = some (.string x.stems[j].uses[k]) := by rw [HW.out]; exact hc3
              have hus := (HM.out.n x.stems[j].uses[k] (List.getElem_mem _)).2
              go_wp2
              go_roundw
              case rel => exact ⟨k + 1, q, _, by omega, by go_num, rfl, Lib.hid (by unfold usesT; rw [flat_snoc _ _ _ hkl]; simp [HR.out, usesT]), HW⟩
              case measure => simp [intOf]; omega
            · obtain rfl : k = x.stems[j].uses.length := by omega
              have HR3 : Hid ((r ++ ({ data := #[10] } : ByteArray)).data.toList = x.affixes.flatMap affT ++ (x.stems.take (j + 1)).flatMap stmT) := Lib.hid (by rw [flat_snoc _ _ _ hlt, stmT]; simp [HR.out])
              clear HR
              go_wp2
              go_roundw
              case rel => exact ⟨j + 1, q, _, by omega, by go_num, rfl, HR3, HW⟩
              case measure => simp [intOf]; omega
        · obtain rfl : j = x.stems.length := by omega
          go_wp2
          go_ret
          exact ⟨ret_str (by rw [ba_eq HR.out, flat_all]; rfl), q, HW.out⟩
set_option maxHeartbeats 1000000 in
theorem specGrammarText_any (v : Value) (x : GraD) (w : World) (hv : GraR w v x) (_hM : MaxL w) :
    Calls Tryz.prog 14 #[v] w fun e w' => e = .returned (.string (gtV x)) ∧ Below w.heap.size w w' := by
  obtain ⟨s1, s2, rfl, ha, hs⟩ := hv
  have hb0 : Below w.heap.size w (w.alloc (.cells #[s1, s2] 27)) := (Below.refl _ _).alloc (Nat.le_refl _) _
  have HB : Hid (GraBox (w.alloc (.cells #[s1, s2] 27)) w.heap.size s1 s2 x) := Lib.hid ⟨cell_newi w _ _ 0 _ rfl, cell_newi w _ _ 1 _ rfl, ha.below hb0, hs.below hb0⟩
  have HB0 := Lib.hid hb0
  obtain ⟨a1, c1, rfl, _⟩ := ha.shape
  obtain ⟨a2, c2, rfl, _⟩ := hs.shape
  clear ha hs hb0
  cases hg : graB x
  · have Hg := Lib.hid hg
    go_enter Tryz.func14, Tryz.ntmps14
    go_wp2_with fail
    refine (l04Ok_any _ _ _ x _ HB.out).mono ?_
    rw [hg]
    rintro e w1 ⟨rfl, q, rfl⟩
    go_wp2
    go_ret
    exact ⟨ret_str (gtV_no Hg.out).symm, below_drewN HB0.out q⟩
  · have Hg := Lib.hid hg
    go_enter Tryz.func14, Tryz.ntmps14
    go_wp2_with fail
    refine (l04Ok_any _ _ _ x _ HB.out).mono ?_
    rw [hg]
    rintro e w1 ⟨rfl, q, hw1⟩
    have HB1 : Hid (GraBox w1 w.heap.size (.slice a1 x.affixes.length c1) (.slice a2 x.stems.length c2) x) := Lib.hid (by rw [hw1]; exact HB.out.drewN q)
    have HBx : Hid (Below w.heap.size w w1) := Lib.hid (by rw [hw1]; exact below_drewN HB0.out q)
    clear hw1 HB hg
    go_wp2_with fail
    refine (l04Text_any _ _ _ x _ HB1.out (graS Hg.out)).mono ?_
    rintro e w2 ⟨rfl, q2, rfl⟩
    go_wp2
    go_ret
    exact ⟨ret_str (gtV_yes Hg.out).symm, below_drewN HBx.out q2⟩
end Go.Proofs.YtndfhmphlomeiaaGreatDoor
/- Derivations, plainly: the affix with a name, the word that affixes lead to, what a derivation of a grammar is. No program is walked. -/
namespace Go.Proofs.YtndfhmphlomeiaaGreatDoor
open Go.RowKit
/-- The affix with a name; an empty one if there is none. -/
def affOf (l : List AffD) (n : ByteArray) : AffD := (l.find? (fun a => decide (a.name = n))).getD nilA
theorem affOf_at {l : List AffD} {n : ByteArray} {j : Nat} (hj : j < l.length) (h : l[j].name = n) (h2 : ∀ i (hi : i < j), l[i].name ≠ n) : affOf l n = l[j] := by
  have : l.find? (fun a => decide (a.name = n)) = some l[j] := List.find?_eq_some_iff_getElem.2 ⟨by simp [h], j, hj, rfl, fun i hi => by simpa using h2 i hi⟩
  rw [affOf, this]; rfl
theorem affOf_none {l : List AffD} {n : ByteArray} (h : ∀ i (hi : i < l.length), l[i].name ≠ n) : affOf l n = nilA := by
  have : l.find? (fun a => decide (a.name = n)) = none := List.find?_eq_none.2 fun x hx => by
    obtain ⟨i, hi, rfl⟩ := List.getElem_of_mem hx
    simpa using h i hi
  rw [affOf, this]; rfl
theorem hasB_at {l : List AffD} {n : ByteArray} (h : hasB l n = true) : ∃ j, ∃ hj : j < l.length, l[j].name = n ∧ (∀ i (hi : i < j), l[i].name ≠ n) ∧ fndI l n = j ∧ affOf l n = l[j] := by
  have hn := hasB_yes h
  unfold fndI at hn
  split at hn
  · rename_i k hk
    have hk' := hk
    rw [List.findIdx?_eq_some_iff_getElem] at hk
    obtain ⟨h1, h2, h3⟩ := hk
    have a : l[k].name = n := by simpa using h2
    have b : ∀ i (hi : i < k), l[i].name ≠ n := fun i hi => by simpa using h3 i hi
    exact ⟨k, h1, a, b, fnd_hit h1 a b, affOf_at h1 a b⟩
  · omega
theorem affOf_ok {l : List AffD} {n : ByteArray} (ha : AffsOk l) (h : hasB l n = true) : affB (affOf l n) = true := by
  obtain ⟨j, hj, -, -, -, e⟩ := hasB_at h
  rw [e]; exact (ha j hj).1
/-- The word that affixes make of a word, one after the other, and a code. -/
noncomputable def wordV (l : List AffD) : ByteArray → List ByteArray → ByteArray × Int
  | w, [] => (w, 0)
  | w, n :: r => if (apV (affOf l n) w).2 = 0 then wordV l (apV (affOf l n) w).1 r else (⟨#[]⟩, (apV (affOf l n) w).2)
theorem apV_zero {x : AffD} {w : ByteArray} (h : (apV x w).2 = 0) : isLong (apV x w).1 = true := by
  cases h1 : matB x w
  · rw [apV_no h1] at h; simp at h
  · cases h2 : isLong (outB x w)
    · rw [apV_far h1 h2] at h; simp at h
    · rw [apV_yes h1 h2]; exact h2
theorem apV_code (x : AffD) (w : ByteArray) : 0 ≤ (apV x w).2 ∧ (apV x w).2 ≤ 3 := by
  cases h1 : matB x w
  · rw [apV_no h1]; simp
  · cases h2 : isLong (outB x w)
    · rw [apV_far h1 h2]; simp
    · rw [apV_yes h1 h2]; simp
/-- How far the word has come behind k affixes. -/
def WordAt (l : List AffD) (w : ByteArray) (ns : List ByteArray) (k : Nat) (cur : ByteArray) : Prop := wordV l w ns = wordV l cur (ns.drop k) ∧ isLong cur = true
theorem WordAt.start {l w ns} (h : isLong w = true) : WordAt l w ns 0 w := ⟨by simp, h⟩
theorem WordAt.next {l w} {ns : List ByteArray} {k cur} (h : WordAt l w ns k cur) (hk : k < ns.length) (h0 : (apV (affOf l ns[k]) cur).2 = 0) : WordAt l w ns (k + 1) (apV (affOf l ns[k]) cur).1 := by
  refine ⟨?_, apV_zero h0⟩
  rw [h.1, List.drop_eq_getElem_cons hk, wordV, if_pos h0]
theorem WordAt.fail {l w} {ns : List ByteArray} {k cur} (h : WordAt l w ns k cur) (hk : k < ns.length) (h0 : ¬ (apV (affOf l ns[k]) cur).2 = 0) : wordV l w ns = (⟨#[]⟩, (apV (affOf l ns[k]) cur).2) := by
  rw [h.1, List.drop_eq_getElem_cons hk, wordV, if_neg h0]
theorem WordAt.done {l w} {ns : List ByteArray} {k cur} (h : WordAt l w ns k cur) (hk : ns.length ≤ k) : wordV l w ns = (cur, 0) := by
  rw [h.1, List.drop_eq_nil_of_le hk, wordV]
/-- Whether a list has a string. -/
def inB (l : List ByteArray) (s : ByteArray) : Bool := l.any fun x => decide (x = s)
theorem inB_yes {l : List ByteArray} {s : ByteArray} {j : Nat} (hj : j < l.length) (h : l[j] = s) : inB l s = true := List.any_eq_true.2 ⟨l[j], List.getElem_mem hj, by simpa using h⟩
theorem inB_no {l : List ByteArray} {s : ByteArray} (h : ∀ i (hi : i < l.length), l[i] ≠ s) : inB l s = false := by
  rw [inB, List.any_eq_false]
  intro y hy
  obtain ⟨i, hi, rfl⟩ := List.getElem_of_mem hy
  simpa using h i hi
theorem inB_mem {l : List ByteArray} {s : ByteArray} : inB l s = true ↔ s ∈ l := by
  rw [inB, List.any_eq_true]
  constructor
  · rintro ⟨x, hx, h⟩
    obtain rfl : x = s := by simpa using h
    exact hx
  · exact fun h => ⟨s, h, by simp⟩
/-- The index of the first string that equals s; -1: none. -/
def idxI (l : List ByteArray) (s : ByteArray) : Int := match l.findIdx? (fun x => decide (x = s)) with
  | some i => (i : Int)
  | none => -1
theorem idx_hit {l : List ByteArray} {n : ByteArray} {j : Nat} (hj : j < l.length) (h : l[j] = n) (h2 : ∀ i (hi : i < j), l[i] ≠ n) : idxI l n = j := by
  have : l.findIdx? (fun a => decide (a = n)) = some j := List.findIdx?_eq_some_iff_getElem.2 ⟨hj, by simp [h], fun i hi => by simpa using h2 i hi⟩
  rw [idxI, this]
theorem idx_none {l : List ByteArray} {n : ByteArray} (h : ∀ i (hi : i < l.length), l[i] ≠ n) : idxI l n = -1 := by
  have : l.findIdx? (fun a => decide (a = n)) = none := List.findIdx?_eq_none_iff.2 fun x hx => by
    obtain ⟨i, hi, rfl⟩ := List.getElem_of_mem hx
    simpa using h i hi
  rw [idxI, this]
theorem idx_in {l : List ByteArray} {n : ByteArray} : decide (0 ≤ idxI l n) = inB l n := by
  cases h : inB l n
  · rw [decide_eq_false_iff_not, idx_none]
    · omega
    · intro i hi e
      rw [inB_yes hi e] at h; cases h
  · rw [decide_eq_true_iff]
    unfold idxI
    split
    · omega
    · rename_i hn
      obtain ⟨x, hx, hp⟩ := List.any_eq_true.1 h
      rw [List.findIdx?_eq_none_iff] at hn
      rw [hn x hx] at hp; cases hp
/-- The first one of its kind. -/
theorem idx_first {l : List ByteArray} {k : Nat} (hk : k < l.length) : (idxI l l[k] = k) ↔ inB (l.take k) l[k] = false := by
  constructor
  · intro h
    refine inB_no fun i hi e => ?_
    unfold idxI at h
    split at h
    · rename_i j hj
      rw [List.findIdx?_eq_some_iff_getElem] at hj
      obtain ⟨h1, h2, h3⟩ := hj
      have : j = k := by omega
      subst this
      simp at hi
      exact h3 i (by omega) (by simpa using e)
    · omega
  · intro h
    refine idx_hit hk rfl fun i hi e => ?_
    have : inB (l.take k) l[k] = true := inB_yes (j := i) (by simp; omega) (by simpa using e)
    rw [this] at h; cases h
/-- A derivation. -/
structure DerD where
  stem : ByteArray
  affixes : List ByteArray
deriving DecidableEq
/-- The index of the first stem with a word; -1: none. -/
def stmI (l : List StemD) (n : ByteArray) : Int := match l.findIdx? (fun a => decide (a.word = n)) with
  | some i => (i : Int)
  | none => -1
theorem stm_hit {l : List StemD} {n : ByteArray} {j : Nat} (hj : j < l.length) (h : l[j].word = n) (h2 : ∀ i (hi : i < j), l[i].word ≠ n) : stmI l n = j := by
  have : l.findIdx? (fun a => decide (a.word = n)) = some j := List.findIdx?_eq_some_iff_getElem.2 ⟨hj, by simp [h], fun i hi => by simpa using h2 i hi⟩
  rw [stmI, this]
theorem stm_none {l : List StemD} {n : ByteArray} (h : ∀ i (hi : i < l.length), l[i].word ≠ n) : stmI l n = -1 := by
  have : l.findIdx? (fun a => decide (a.word = n)) = none := List.findIdx?_eq_none_iff.2 fun x hx => by
    obtain ⟨i, hi, rfl⟩ := List.getElem_of_mem hx
    simpa using h i hi
  rw [stmI, this]
theorem stm_cases (l : List StemD) (n : ByteArray) : stmI l n = -1 ∧ (∀ i (hi : i < l.length), l[i].word ≠ n) ∨ ∃ j, ∃ hj : j < l.length, stmI l n = j ∧ l[j].word = n ∧ ∀ i (hi : i < j), l[i].word ≠ n := by
  cases h : l.findIdx? (fun a => decide (a.word = n)) with
  | none =>
    refine .inl ⟨by rw [stmI, h], fun i hi e => ?_⟩
    have := List.findIdx?_eq_none_iff.1 h l[i] (List.getElem_mem hi)
    rw [e] at this; simp at this
  | some j =>
    obtain ⟨h1, h2, h3⟩ := List.findIdx?_eq_some_iff_getElem.1 h
    exact .inr ⟨j, h1, by rw [stmI, h], by simpa using h2, fun i hi => by simpa using h3 i hi⟩
/-- The first k affixes of a derivation are among some, none of them twice. -/
def DerTo (us l : List ByteArray) (k : Nat) : Prop := ∀ i, i < k → (h : i < l.length) → inB us l[i] = true ∧ inB (l.take i) l[i] = false
theorem DerTo.zero {us l} : DerTo us l 0 := fun i h => by omega
theorem DerTo.succ {us l k} (h : DerTo us l k) (hk : k < l.length) (h1 : inB us l[k] = true) (h2 : inB (l.take k) l[k] = false) : DerTo us l (k + 1) := fun i hi hl => by
  rcases Nat.lt_succ_iff_lt_or_eq.1 hi with h3 | rfl
  · exact h i h3 hl
  · exact ⟨h1, h2⟩
def DerOk (g : GraD) (d : DerD) : Prop := ∃ j, ∃ hj : j < g.stems.length, stmI g.stems d.stem = j ∧ d.affixes.length ≤ 2 ∧ DerTo g.stems[j].uses d.affixes d.affixes.length
open Classical in
noncomputable def derB (g : GraD) (d : DerD) : Bool := decide (DerOk g d)
open Classical in
theorem derB_yes {g : GraD} {d : DerD} (h : DerOk g d) : derB g d = true := by unfold derB; exact decide_eq_true h
open Classical in
theorem derB_no {g : GraD} {d : DerD} (h : ¬ DerOk g d) : derB g d = false := by unfold derB; exact decide_eq_false h
open Classical in
theorem derB_iff {g : GraD} {d : DerD} : derB g d = true ↔ DerOk g d := by unfold derB; simp
open Classical in
theorem graB_iff {g : GraD} : graB g = true ↔ GraOk g := by unfold graB; simp
/-- What WordOf comes to. -/
noncomputable def woV (g : GraD) (d : DerD) : ByteArray × Int := if graB g then (if derB g d then wordV g.affixes d.stem d.affixes else (⟨#[]⟩, 6)) else (⟨#[]⟩, 1)
theorem GraOk.stem {g : GraD} (h : GraOk g) {j : Nat} (hj : j < g.stems.length) : isLong g.stems[j].word = true ∧ ∀ n ∈ g.stems[j].uses, hasB g.affixes n = true := by
  have := h.2.1.1 j hj
  unfold stemB at this
  simp only [Bool.and_eq_true] at this
  exact ⟨this.2, fun n hn => List.all_eq_true.1 this.1.1 n hn⟩
theorem DerOk.names {g : GraD} {d : DerD} (hg : GraOk g) (h : DerOk g d) : isLong d.stem = true ∧ ∀ n ∈ d.affixes, hasB g.affixes n = true := by
  obtain ⟨j, hj, h1, h2, h3⟩ := h
  rcases stm_cases g.stems d.stem with ⟨e, _⟩ | ⟨k, hk, e1, e2, _⟩
  · omega
  · have : k = j := by omega
    subst this
    refine ⟨by rw [← e2]; exact (hg.stem hj).1, fun n hn => ?_⟩
    obtain ⟨i, hi, rfl⟩ := List.getElem_of_mem hn
    exact (hg.stem hj).2 _ (inB_mem.1 (h3 i hi hi).1)
end Go.Proofs.YtndfhmphlomeiaaGreatDoor
