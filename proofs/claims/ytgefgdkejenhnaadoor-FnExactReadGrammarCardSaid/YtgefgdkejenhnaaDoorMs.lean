/- Stems whose lists lie in blocks of their own: readings, what a store and a call turn. No program is walked. -/
import Derived.Test.YtgefgdkejenhnaaDoorGv
namespace Go.Proofs.YtgefgdkejenhnaaDoor
open Go.RowKit
/-- The first j of M, then l. -/
def mixT {α : Type} (M l : List α) (j : Nat) : List α := M.take j ++ l.drop j
theorem mixT_zero {α : Type} (M l : List α) : mixT M l 0 = l := by simp [mixT]
theorem mixT_all {α : Type} (M l : List α) (h : M.length = l.length) : mixT M l l.length = M := by simp [mixT, ← h]
theorem mixT_len {α : Type} (M l : List α) (h : M.length = l.length) (j : Nat) (hj : j ≤ l.length) : (mixT M l j).length = l.length := by simp [mixT]; omega
theorem mixT_get {α : Type} (M l : List α) (h : M.length = l.length) (j : Nat) (hj : j < l.length) (h' : j < (mixT M l j).length) : (mixT M l j)[j] = l[j] := by
  have : (mixT M l j)[j]? = some l[j] := by
    unfold mixT
    rw [List.getElem?_append_right (by simp; omega), List.getElem?_drop]
    have : j + (j - (M.take j).length) = j := by simp; omega
    rw [this, List.getElem?_eq_getElem hj]
  exact (List.getElem?_eq_some_iff.1 this).2
theorem mixT_set {α : Type} (M l : List α) (h : M.length = l.length) (j : Nat) (hj : j < l.length) (hj' : j < M.length) : (mixT M l j).set j M[j] = mixT M l (j + 1) := by
  unfold mixT
  rw [List.set_append_right _ _ (by simp; omega), List.take_succ_eq_append_getElem hj', List.append_assoc]
  have : j - (M.take j).length = 0 := by simp; omega
  rw [this, List.drop_eq_getElem_cons hj, List.set_cons_zero]
  rfl
theorem StrsW.exact {w : World} {lo hi : Nat} {v : Value} {l : List ByteArray} (h : StrsW w lo hi v l) (d : Nat) : ∃ g, (g = d ∨ (lo ≤ g ∧ g < hi)) ∧ StrsW w g (g + 1) v l := by
  obtain ⟨⟨h1, a, c, e1, h2, h3, h4⟩, h5⟩ := h
  rcases h4 with h4 | ⟨g, off, cur, e2, h6, h7, h8⟩
  · exact ⟨d, .inl rfl, ⟨h1, a, c, e1, h2, h3, .inl h4⟩, h5⟩
  · exact ⟨g, .inr ⟨h6, h7⟩, ⟨h1, a, c, e1, h2, h3, .inr ⟨g, off, cur, e2, Nat.le_refl _, Nat.lt_succ_self _, h8⟩⟩, h5⟩
theorem AffsW.exact {w : World} {lo hi : Nat} {v : Value} {l : List AffD} (h : AffsW w lo hi v l) (d : Nat) : ∃ g, (g = d ∨ (lo ≤ g ∧ g < hi)) ∧ AffsW w g (g + 1) v l := by
  obtain ⟨⟨h1, a, c, e1, h2, h3, h4⟩, h5⟩ := h
  rcases h4 with h4 | ⟨g, off, cur, e2, h6, h7, h8⟩
  · exact ⟨d, .inl rfl, ⟨h1, a, c, e1, h2, h3, .inl h4⟩, h5⟩
  · exact ⟨g, .inr ⟨h6, h7⟩, ⟨h1, a, c, e1, h2, h3, .inr ⟨g, off, cur, e2, Nat.le_refl _, Nat.lt_succ_self _, h8⟩⟩, h5⟩
theorem SlW.exact {w : World} {lo hi e sz : Nat} {v : Value} {n : Nat} {xs : List Value} (h : SlW w lo hi e sz v n xs) (d : Nat) : ∃ g, (g = d ∨ (lo ≤ g ∧ g < hi)) ∧ SlW w g (g + 1) e sz v n xs := by
  obtain ⟨h1, a, c, e1, h2, h3, h4⟩ := h
  rcases h4 with h4 | ⟨g, off, cur, e2, h6, h7, h8⟩
  · exact ⟨d, .inl rfl, ⟨h1, a, c, e1, h2, h3, .inl h4⟩⟩
  · exact ⟨g, .inr ⟨h6, h7⟩, ⟨h1, a, c, e1, h2, h3, .inr ⟨g, off, cur, e2, Nat.le_refl _, Nat.lt_succ_self _, h8⟩⟩⟩
theorem SlW.own {w : World} {lo hi e sz : Nat} {v : Value} {n : Nat} {xs : List Value} (h : SlW w lo hi e sz v n xs) (hn : 0 < n) : ∃ g off c, v = .slice (some ⟨g, off, none⟩) n c ∧ lo ≤ g ∧ g < hi := by
  obtain ⟨_, a, c, e1, _, _, h4⟩ := h
  rcases h4 with h4 | ⟨g, off, cur, e2, h5, h6, _⟩
  · omega
  · exact ⟨g, off, c, by rw [e1, e2], h5, h6⟩
/-- A row in one block reads on where the block is as it was. -/
theorem SlW.of_block {w w' : World} {b e sz : Nat} {v : Value} {n : Nat} {xs : List Value} (h : SlW w b (b + 1) e sz v n xs) (hb : w'.heap[b]? = w.heap[b]?) : SlW w' b (b + 1) e sz v n xs := by
  obtain ⟨h1, a, c, e1, h2, h3, h4⟩ := h
  refine ⟨h1, a, c, e1, h2, h3, ?_⟩
  rcases h4 with h4 | ⟨g, off, cur, e2, h6, h7, h8, h9⟩
  · exact .inl h4
  · obtain rfl : g = b := by omega
    exact .inr ⟨g, off, cur, e2, h6, h7, hb.trans h8, h9⟩
theorem AffsW.of_block {w w' : World} {b : Nat} {v : Value} {l : List AffD} (h : AffsW w b (b + 1) v l) (hb : w'.heap[b]? = w.heap[b]?) : AffsW w' b (b + 1) v l := ⟨h.1.of_block hb, h.2⟩
/-- The affix of marks from k on. -/
def mkAff (k : Int) : AffD := ⟨mtext k, ((k + 1) % 3 == 0), mtext (k + 1 + 1), mtext (k + 1 + 1 + 1), mtext (k + 1 + 1 + 1 + 1)⟩
def mkAs (k : Int) (n : Nat) : List AffD := (List.range n).map fun (i : Nat) => mkAff (k + 5 * (i : Int))
theorem mkAs_length (k : Int) (n : Nat) : (mkAs k n).length = n := by simp [mkAs]
def markedA (k : Int) (l : List AffD) (j : Nat) : List AffD := mkAs k j ++ l.drop j
theorem markedA_zero (k : Int) (l : List AffD) : markedA k l 0 = l := by simp [markedA, mkAs]
theorem markedA_all (k : Int) (l : List AffD) : markedA k l l.length = mkAs k l.length := by simp [markedA]
theorem markedA_length (k : Int) (l : List AffD) (j : Nat) (_h : j ≤ l.length) : (markedA k l j).length = l.length := by simp [markedA, mkAs]; omega
theorem markedA_get (k : Int) (l : List AffD) (j : Nat) (h : j < l.length) (h' : j < (markedA k l j).length) : (markedA k l j)[j] = l[j] := by
  have : (markedA k l j)[j]? = some l[j] := by
    unfold markedA
    rw [List.getElem?_append_right (by simp [mkAs]), List.getElem?_drop]; simp [mkAs, h]
  exact (List.getElem?_eq_some_iff.1 this).2
theorem markedA_succ (k : Int) (l : List AffD) (j : Nat) (h : j < l.length) : (markedA k l j).set j (mkAff (k + 5 * (j : Int))) = markedA k l (j + 1) := by
  unfold markedA
  rw [List.set_append_right _ _ (by simp [mkAs])]
  simp only [mkAs_length, Nat.sub_self]
  rw [List.drop_eq_getElem_cons h, List.set_cons_zero]
  simp [mkAs, List.range_succ]
theorem mkAff_lim (k : Int) (h : k + 4 ≤ 9223372036854775807) : AffLim (mkAff k) maxLen := ⟨mtext_le _ (by omega), mtext_le _ (by omega), mtext_le _ (by omega), mtext_le _ (by omega)⟩
/-- Stems (or derivations: a string and a list) in block og, the list of number j in block q j. -/
structure StX (ty : TypeId) (w : World) (og : Nat) (q : Nat → Nat) (us : List Value) (v : Value) (l : List StemD) : Prop where
  len : us.length = l.length
  out : SlW w og (og + 1) ty 2 v l.length ((l.zip us).flatMap stemL)
  word : ∀ x ∈ l, x.word.size ≤ maxLen
  uses : ∀ j (h : j < l.length) (h' : j < us.length), StrsW w (q j) (q j + 1) us[j] l[j].uses
  ne : ∀ j, j < l.length → q j ≠ og
  inj : ∀ i j, i < l.length → j < l.length → q i = q j → i = j
theorem StX.stems {ty : TypeId} {w og q us v l} (h : StX ty w og q us v l) : Stems w v l :=
  ⟨us, h.len, h.out.read, fun j hj hj' => ⟨h.word _ (List.getElem_mem _), (h.uses j hj hj').read⟩⟩
theorem StX.below {ty : TypeId} {w w' : World} {og q us v l} (h : StX ty w og q us v l) (hb : Below w.heap.size w w') : StX ty w' og q us v l :=
  ⟨h.len, h.out.below hb, h.word, fun j hj hj' => (h.uses j hj hj').below hb, h.ne, h.inj⟩
theorem StX.kept {ty : TypeId} {w w' : World} {lo hi og q us v l} (h : StX ty w og q us v l) (hk : Kept lo hi w w') (h1 : og < lo ∨ hi ≤ og) (h2 : ∀ j, j < l.length → q j < lo ∨ hi ≤ q j) : StX ty w' og q us v l :=
  ⟨h.len, h.out.kept hk (by omega), h.word, fun j hj hj' => (h.uses j hj hj').kept hk (by have := h2 j hj; omega), h.ne, h.inj⟩
/-- Where the cells of row j lie. -/
theorem StX.at {ty : TypeId} {w : World} {og q us g off n c l} (h : StX ty w og q us (.slice (some ⟨g, off, none⟩) n c) l) (j : Nat) (hj : j < l.length) :
    g = og ∧ ∃ ua uc, w.cell? ⟨g, off + j * 2, none⟩ = some (.string l[j].word) ∧ w.frozen? ⟨g, off + j * 2, none⟩ = false ∧ w.cell? ⟨g, off + j * 2 + 1, none⟩ = some (.slice ua l[j].uses.length uc) ∧ us[j]? = some (.slice ua l[j].uses.length uc) ∧ StrsW w (q j) (q j + 1) (.slice ua l[j].uses.length uc) l[j].uses ∧ l[j].uses.length ≤ maxLen ∧ uc ≤ maxLen := by
  have hn : n = l.length := by obtain ⟨a, c', e, _⟩ := h.out.2; injection e
  subst hn
  have hj' : j < us.length := by rw [h.len]; exact hj
  have g0 := fun i hi => flat_get stemL 2 stemL_len (l.zip us) j (by simp; omega) i hi
  obtain ⟨a0, f0, hg1, hg2⟩ := h.out.at (j := j * 2 + 0) (by omega)
  obtain ⟨a1, -, -, -⟩ := h.out.at (j := j * 2 + 1) (by omega)
  have hu := h.uses j hj hj'
  obtain ⟨ua, uc, e, h5, h6, -⟩ := hu.read.shape
  rw [g0 0 (by omega)] at a0
  rw [g0 1 (by omega)] at a1
  refine ⟨by omega, ua, uc, ?_, f0, ?_, by rw [List.getElem?_eq_getElem hj', e], e ▸ hu, by omega, h6⟩
  · rw [Nat.add_zero] at a0; rw [a0]; simp [stemL]
  · rw [Nat.add_assoc, a1]; simp [stemL, e]
theorem zip_set_word : ∀ (l : List StemD) (us : List Value) (j : Nat) (t : ByteArray) (r : List ByteArray), j < l.length → us.length = l.length →
    ((l.set j ⟨t, r⟩).zip us).flatMap stemL = ((l.zip us).flatMap stemL).set (j * 2) (.string t)
  | [], _, _, _, _, h, _ => by simp at h
  | _ :: _, [], _, _, _, _, h => by simp at h
  | x :: l, u :: us, 0, t, r, _, _ => by simp [stemL]
  | x :: l, u :: us, j + 1, t, r, h, h2 => by
    have ih := zip_set_word l us j t r (by simpa using h) (by simpa using h2)
    rw [List.set_cons_succ, List.zip_cons_cons, List.flatMap_cons, ih, List.zip_cons_cons, List.flatMap_cons, show (j + 1) * 2 = j * 2 + 1 + 1 by omega]
    rfl
/-- A word is stored. -/
theorem StX.setWord {ty : TypeId} {w : World} {og q us g off n c l} (h : StX ty w og q us (.slice (some ⟨g, off, none⟩) n c) l) (j : Nat) (hj : j < l.length) (t : ByteArray) (ht : t.size ≤ maxLen) :
    StX ty (w.setCell ⟨g, off + j * 2, none⟩ (.string t)) og q us (.slice (some ⟨g, off, none⟩) n c) (l.set j ⟨t, l[j].uses⟩) := by
  obtain ⟨hgo, -⟩ := h.at j hj
  have hn : n = l.length := by obtain ⟨a, c', e, _⟩ := h.out.2; injection e
  subst hn
  subst hgo
  have hk : Kept g (g + 1) w (w.setCell ⟨g, off + j * 2, none⟩ (.string t)) := kept_setCell (Nat.le_refl _) (Nat.lt_succ_self _) _
  refine ⟨by rw [List.length_set]; exact h.len, ?_, fun x hx => ?_, fun i hi hi' => ?_, fun i hi => h.ne i (by simpa using hi), fun i k hi hk => h.inj i k (by simpa using hi) (by simpa using hk)⟩
  · have := h.out.setC (j := j * 2) (by omega) (.string t)
    rw [List.length_set, zip_set_word l us j t _ hj h.len]
    exact this
  · rcases List.mem_or_eq_of_mem_set hx with h2 | rfl
    · exact h.word x h2
    · exact ht
  · have hi2 : i < l.length := by simpa using hi
    have h2 := (h.uses i hi2 hi').kept hk (by have := h.ne i hi2; omega)
    have e : (l.set j ⟨t, l[j].uses⟩)[i].uses = l[i].uses := by
      rw [List.getElem_set]
      split
      · rename_i e; subst e; rfl
      · rfl
    rw [e]; exact h2
theorem zip_set_uses (l : List StemD) (us : List Value) (j : Nat) (hj : j < l.length) (r : List ByteArray) : ((l.set j ⟨l[j].word, r⟩).zip us).flatMap stemL = (l.zip us).flatMap stemL := by
  induction l generalizing us j with
  | nil => simp at hj
  | cons x l ih =>
    cases us with
    | nil => simp
    | cons u us =>
      cases j with
      | zero => simp [stemL]
      | succ j =>
        have := ih us j (by simpa using hj)
        simp only [List.set_cons_succ, List.getElem_cons_succ, List.zip_cons_cons, List.flatMap_cons]
        rw [this]
/-- A list's strings turn. -/
theorem StX.setUses {ty : TypeId} {w w' : World} {og q us v l} (h : StX ty w og q us v l) (j : Nat) (hj : j < l.length) (u : Value) (hu : us[j]? = some u) (r : List ByteArray) (hk : Kept (q j) (q j + 1) w w') (hr : StrsW w' (q j) (q j + 1) u r) :
    StX ty w' og q us v (l.set j ⟨l[j].word, r⟩) := by
  refine ⟨by rw [List.length_set]; exact h.len, ?_, fun x hx => ?_, fun i hi hi' => ?_, fun i hi => h.ne i (by simpa using hi), fun i k hi hk => h.inj i k (by simpa using hi) (by simpa using hk)⟩
  · rw [List.length_set, zip_set_uses l us j hj]
    exact h.out.kept hk (by have := h.ne j hj; omega)
  · rcases List.mem_or_eq_of_mem_set hx with h2 | rfl
    · exact h.word x h2
    · exact h.word l[j] (List.getElem_mem _)
  · have hi2 : i < l.length := by simpa using hi
    by_cases e : i = j
    · subst e
      have e2 : (l.set i ⟨l[i].word, r⟩)[i].uses = r := by rw [List.getElem_set_self]
      rw [e2]; rw [List.getElem?_eq_getElem hi'] at hu; rw [Option.some.inj hu]; exact hr
    · have e2 : (l.set j ⟨l[j].word, r⟩)[i].uses = l[i].uses := by rw [List.getElem_set_ne (Ne.symm e)]
      rw [e2]
      exact (h.uses i hi2 hi').kept hk (by have : q i ≠ q j := fun hq => e (h.inj i j hi2 hj hq); omega)
/-- The marks of stems from k on. -/
def useN (l : List StemD) : Nat := (l.map fun x => 1 + x.uses.length).sum
theorem useN_take (l : List StemD) (j : Nat) (h : j < l.length) : useN (l.take (j + 1)) = useN (l.take j) + 1 + l[j].uses.length := by
  unfold useN; rw [List.take_succ_eq_append_getElem h, List.map_append, List.sum_append]; simp; omega
theorem useN_le (l : List StemD) (j : Nat) : useN (l.take j) ≤ useN l := by
  conv => rhs; rw [← List.take_append_drop j l]
  unfold useN; rw [List.map_append, List.sum_append]; omega
def mkStem (k : Int) (x : StemD) : StemD := ⟨mtext k, marks (k + 1) x.uses.length⟩
def mkS (k : Int) (l : List StemD) : List StemD := l.mapIdx fun i x => mkStem (k + useN (l.take i)) x
theorem mkS_len (k : Int) (l : List StemD) : (mkS k l).length = l.length := by simp [mkS]
theorem mkS_get (k : Int) (l : List StemD) (j : Nat) (h : j < l.length) (h' : j < (mkS k l).length) : (mkS k l)[j] = mkStem (k + useN (l.take j)) l[j] := by simp [mkS]
/-- A grammar whose blocks are apart. -/
def GraX (w : World) (lo hi : Nat) (v : Value) (x : GraD) : Prop := ∃ s1 s2 ab og q us, v = .agg #[s1, s2] ∧ AffsW w ab (ab + 1) s1 x.affixes ∧ StX 67 w og q us s2 x.stems ∧ (lo ≤ ab ∧ ab < hi) ∧ (lo ≤ og ∧ og < hi) ∧ ab ≠ og ∧ ∀ j, j < x.stems.length → lo ≤ q j ∧ q j < hi ∧ q j ≠ ab
theorem GraX.read {w : World} {lo hi v x} (h : GraX w lo hi v x) : GraR w v x := by
  obtain ⟨s1, s2, ab, og, q, us, e, h1, h2, _⟩ := h
  exact ⟨s1, s2, e, h1.read, h2.stems⟩
theorem GraX.below {w w' : World} {lo hi v x} (h : GraX w lo hi v x) (hb : Below w.heap.size w w') : GraX w' lo hi v x := by
  obtain ⟨s1, s2, ab, og, q, us, e, h1, h2, h3⟩ := h
  exact ⟨s1, s2, ab, og, q, us, e, h1.below hb, h2.below hb, h3⟩
theorem GraX.kept {w w' : World} {lo hi lo' hi' v x} (h : GraX w lo hi v x) (hb : Kept lo' hi' w w') (hd : hi ≤ lo' ∨ hi' ≤ lo) : GraX w' lo hi v x := by
  obtain ⟨s1, s2, ab, og, q, us, e, h1, h2, h3, h4, h5, h6⟩ := h
  exact ⟨s1, s2, ab, og, q, us, e, h1.kept hb (by omega), h2.kept hb (by omega) (fun j hj => by have := h6 j hj; omega), h3, h4, h5, h6⟩
theorem GraX.mono {w : World} {lo hi lo' hi' v x} (h : GraX w lo hi v x) (hl : lo' ≤ lo) (hh : hi ≤ hi') : GraX w lo' hi' v x := by
  obtain ⟨s1, s2, ab, og, q, us, e, h1, h2, h3, h4, h5, h6⟩ := h
  exact ⟨s1, s2, ab, og, q, us, e, h1, h2, by omega, by omega, h5, fun j hj => by have := h6 j hj; omega⟩
theorem GraX.shape {w : World} {lo hi v x} (h : GraX w lo hi v x) : ∃ a c b d, v = .agg #[.slice a x.affixes.length c, .slice b x.stems.length d] := h.read.shape
def cntG (x : GraD) : Nat := 5 * x.affixes.length + useN x.stems
def marksG (k : Int) (x : GraD) : GraD := ⟨mkAs k x.affixes.length, mkS (k + 5 * x.affixes.length) x.stems⟩
theorem useN_bound (l : List StemD) (h : ∀ x ∈ l, x.uses.length ≤ 1048576) : useN l ≤ l.length * 1048577 := by
  unfold useN
  induction l with
  | nil => simp
  | cons x l ih =>
    have h1 := h x (List.mem_cons_self ..)
    have h2 := ih fun y hy => h y (List.mem_cons_of_mem _ hy)
    simp only [List.map_cons, List.sum_cons, List.length_cons]
    omega
theorem cntG_le {x : GraD} (h : GraLim x) : cntG x ≤ 2000000000000 := by
  have h1 := useN_bound x.stems h.u
  have h2 := h.a
  have h3 := h.s
  unfold cntG
  have : x.stems.length * 1048577 ≤ 1048576 * 1048577 := Nat.mul_le_mul_right _ h3
  omega
end Go.Proofs.YtgefgdkejenhnaaDoor
