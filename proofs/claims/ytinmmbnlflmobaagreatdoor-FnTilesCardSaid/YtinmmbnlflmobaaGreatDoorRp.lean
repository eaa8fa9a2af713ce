/- ReadTiles, the plain law: what the reference and the program make of the words of a tile set's text. No program in sight. -/
import Derived.Test.YtinmmbnlflmobaaGreatDoorRd
import Derived.Test.YtinmmbnlflmobaaGreatDoorTt
import Derived.Test.YtinmmbnlflmobaaGreatDoorS
namespace Go.Proofs.YtinmmbnlflmobaaGreatDoor
open Go.RowKit

theorem itoa_nn {n : Int} (h : 0 ≤ n) : Lib.itoa n = Lib.decDigits n.toNat := by unfold Lib.itoa; rw [if_neg (by omega)]
theorem dec_pos (m : Nat) : 1 ≤ (Lib.decDigits m).length := by rw [Lib.decDigits_length]; exact Lib.nDigits_pos m
theorem readD_itoa {n : Int} (h0 : 0 ≤ n) (h1 : n ≤ 20) : readD (Lib.itoa n) = some n := by
  have hd : dgs (Lib.itoa n) = true := by rw [itoa_nn h0]; exact dec_dgs _
  have hl := dec_pos n.toNat
  have hl2 : (Lib.itoa n).length ≤ 18 := by
    have := digs_len 2 n.natAbs (by omega)
    by_cases hz : n = 0
    · subst hz; rw [itoa_zero]; decide
    · rw [itoa_pos (by omega)]; omega
  have hh : (Lib.itoa n).head? ≠ some 45 := by
    intro e
    cases hx : Lib.itoa n with
    | nil => rw [hx] at e; simp at e
    | cons c r => rw [hx] at e hd; simp at e; subst e; simp [dgs, digI] at hd
  have ht := trD_pos hh
  have hv : valD (Lib.itoa n) = n := by
    unfold valD; rw [if_neg hh, ht, itoa_nn h0, dec_num]; omega
  have := readD_ok (l := Lib.itoa n) (by rw [ht]; rw [itoa_nn h0] at hl2 ⊢; omega) (by rw [ht]; exact hd) (by rw [hv])
  rw [this, hv]
theorem itoa_dig {n : Int} (h0 : 0 ≤ n) : ∀ c ∈ Lib.itoa n, 48 ≤ c.toNat ∧ c.toNat ≤ 57 := by
  intro c hc
  have hd : dgs (Lib.itoa n) = true := by rw [itoa_nn h0]; exact dec_dgs _
  exact digI_iff.1 (List.all_eq_true.1 hd c hc)
/-- The reference's parts of a word. -/
def twoP (w : List UInt8) : Option (List UInt8 × List UInt8) :=
  match splitC 120 w with
  | [a, b] => if a = [] then none else some (a, b)
  | [a, b, c] => if a = [] then some (120 :: b, c) else none
  | _ => none
/-- The reference's step: a tile set, a word. -/
def specStep (t : TileD) (w : List UInt8) : Option TileD :=
  match twoP w with
  | none => none
  | some (a, b) =>
    if a = [63] then (if (readD b).isSome = true ∧ 0 < (readD b).getD 0 then some { t with blanks := (readD b).getD 0 } else none)
    else if (readD b).isSome = true ∧ (readD (a.drop 1)).isSome = true ∧ t.blanks = 0 then
      some { letters := t.letters ++ ⟨(a.take 1).toArray⟩, values := t.values ++ [(readD (a.drop 1)).getD 0], counts := t.counts ++ [(readD b).getD 0], blanks := t.blanks }
    else none
def foldO (f : TileD → List UInt8 → Option TileD) (t : TileD) : List (List UInt8) → Option TileD
  | [] => some t
  | w :: r => match f t w with | none => none | some t' => foldO f t' r
theorem tile_split {l : UInt8} {v c : Int} (hl : 97 ≤ l.toNat) (hv : 0 ≤ v) (hc : 0 ≤ c) : twoP (l :: (Lib.itoa v ++ 120 :: Lib.itoa c)) = some (l :: Lib.itoa v, Lib.itoa c) := by
  have nv : ∀ b ∈ Lib.itoa v, b ≠ 120 := by intro b hb e; subst e; have := itoa_dig hv _ hb; simp at this
  have nc : ∀ b ∈ Lib.itoa c, b ≠ 120 := by intro b hb e; subst e; have := itoa_dig hc _ hb; simp at this
  by_cases h : l = 120
  · subst h
    have e1 := splitC_app 120 [] (Lib.itoa v ++ 120 :: Lib.itoa c) (by simp)
    have e2 := splitC_app 120 (Lib.itoa v) (Lib.itoa c) nv
    rw [List.nil_append] at e1
    unfold twoP
    rw [e1, e2, splitC_none 120 _ nc]
    simp
  · have e2 := splitC_app 120 (l :: Lib.itoa v) (Lib.itoa c) (by intro b hb; rcases List.mem_cons.1 hb with rfl | hb; exact h; exact nv b hb)
    unfold twoP
    rw [show l :: (Lib.itoa v ++ 120 :: Lib.itoa c) = (l :: Lib.itoa v) ++ 120 :: Lib.itoa c from rfl, e2, splitC_none 120 _ nc]
    simp
theorem blank_split {c : Int} (hc : 0 ≤ c) : twoP (63 :: 120 :: Lib.itoa c) = some ([63], Lib.itoa c) := by
  have nc : ∀ b ∈ Lib.itoa c, b ≠ 120 := by intro b hb e; subst e; have := itoa_dig hc _ hb; simp at this
  have e2 := splitC_app 120 [63] (Lib.itoa c) (by simp)
  unfold twoP
  rw [show 63 :: 120 :: Lib.itoa c = [63] ++ 120 :: Lib.itoa c from rfl, e2, splitC_none 120 _ nc]
  simp
theorem foldO_append (f : TileD → List UInt8 → Option TileD) : ∀ (l r : List (List UInt8)) (t t' : TileD), foldO f t l = some t' → foldO f t (l ++ r) = foldO f t' r
  | [], r, t, t', h => by simp only [foldO] at h; cases h; rfl
  | w :: l, r, t, t', h => by
    simp only [foldO, List.cons_append] at h ⊢
    cases hf : f t w with
    | none => rw [hf] at h; cases h
    | some t2 => rw [hf] at h; exact foldO_append f l r t2 t' h
/-- No blank stands in a tile's word. -/
theorem tileW_no {x : TileD} (H : TilP x) {j : Nat} (hj : j < x.letters.size) : ∀ b ∈ tileW x j, b ≠ 32 := by
  have hv : j < x.values.length := by have := H.lv; omega
  have hc : j < x.counts.length := by have := H.lc; omega
  rw [tileW_at hj hv hc]
  have hs := H.sm j hj
  intro b hb e
  subst e
  rcases List.mem_cons.1 hb with h | h
  · rw [← h] at hs; simp [smallI] at hs
  · rcases List.mem_append.1 h with h | h
    · have := itoa_dig (H.va j hv).1 _ h; simp at this
    · rcases List.mem_cons.1 h with h | h
      · simp at h
      · have := itoa_dig (n := x.counts[j]) (by have := (H.co j hc).1; omega) _ h; simp at this
/-- The words of a tile set's text. -/
def wordsL (x : TileD) : List (List UInt8) := (List.range x.letters.size).map (tileW x) ++ (if 0 < x.blanks then [63 :: 120 :: Lib.itoa x.blanks] else [])
theorem split_words : ∀ (ws : List (List UInt8)) (r : List UInt8), (∀ w ∈ ws, ∀ b ∈ w, b ≠ 32) → splitC 32 (ws.flatMap (fun w => w ++ [32]) ++ r) = ws ++ splitC 32 r
  | [], r, _ => rfl
  | w :: ws, r, h => by
    rw [List.flatMap_cons, List.append_assoc, List.append_assoc, List.singleton_append, splitC_app 32 w _ (h w (List.mem_cons_self ..)), split_words ws r (fun w' hw => h w' (List.mem_cons_of_mem _ hw))]
    rfl
theorem textTo_flat (x : TileD) (j : Nat) : textTo x (j + 1) = ((List.range j).map (tileW x)).flatMap (fun w => w ++ [32]) ++ tileW x j := by
  induction j with
  | zero => simp [textTo]
  | succ j ih =>
    rw [textTo, ih, List.range_succ, List.map_append, List.flatMap_append, if_neg (by omega)]
    simp
theorem textL_split {x : TileD} (H : TilP x) : splitC 32 (textL x) = wordsL x := by
  have h1 := H.n1
  obtain ⟨n, hn⟩ : ∃ n, x.letters.size = n + 1 := ⟨x.letters.size - 1, by omega⟩
  have hno : ∀ w ∈ (List.range n).map (tileW x), ∀ b ∈ w, b ≠ 32 := by
    intro w hw
    obtain ⟨i, hi, rfl⟩ := List.mem_map.1 hw
    exact tileW_no H (by have := List.mem_range.1 hi; omega)
  have hlast := tileW_no H (show n < x.letters.size by omega)
  unfold textL wordsL
  rw [hn, textTo_flat, List.range_succ, List.map_append]
  by_cases hb : 0 < x.blanks
  · have hnb : ∀ b ∈ (63 :: 120 :: Lib.itoa x.blanks), b ≠ 32 := by
      intro b hb2 e
      subst e
      rcases List.mem_cons.1 hb2 with h | h
      · simp at h
      · rcases List.mem_cons.1 h with h | h
        · simp at h
        · have := itoa_dig H.b0 _ h; simp at this
    rw [if_pos hb, if_pos hb, List.append_assoc, split_words _ _ hno, splitC_app 32 _ _ hlast, splitC_none 32 _ hnb]
    simp
  · rw [if_neg hb, if_neg hb, List.append_nil, split_words _ _ hno, splitC_none 32 _ hlast]
    simp
/-- The first j kinds of a tile set. -/
def firstT (x : TileD) (j : Nat) : TileD := { letters := ⟨(x.letters.data.toList.take j).toArray⟩, values := x.values.take j, counts := x.counts.take j, blanks := 0 }
theorem specStep_tile {x : TileD} (H : TilP x) {j : Nat} (hj : j < x.letters.size) : specStep (firstT x j) (tileW x j) = some (firstT x (j + 1)) := by
  have hv : j < x.values.length := by have := H.lv; omega
  have hc : j < x.counts.length := by have := H.lc; omega
  have hs := H.sm j hj
  have hl : 97 ≤ x.letters[j].toNat := by simp [smallI] at hs; omega
  have hco := H.co j hc
  rw [tileW_at hj hv hc]
  unfold specStep
  rw [tile_split hl (H.va j hv).1 (by omega)]
  have hne : ¬ (x.letters[j] :: Lib.itoa x.values[j] = [63]) := by intro e; injection e with e; rw [e] at hl; simp at hl
  have hll : j < x.letters.data.toList.length := by simpa using hj
  simp only [if_neg hne, List.drop_succ_cons, List.drop_zero, readD_itoa (H.va j hv).1 (H.va j hv).2, readD_itoa (n := x.counts[j]) (by omega) hco.2]
  rw [if_pos ⟨rfl, rfl, rfl⟩]
  unfold firstT
  rw [List.take_succ_eq_append_getElem hv, List.take_succ_eq_append_getElem hc, List.take_succ_eq_append_getElem hll]
  simp [ba_append]
  rfl
def emptyT : TileD := { letters := ⟨#[]⟩, values := [], counts := [], blanks := 0 }
theorem firstT_zero (x : TileD) : firstT x 0 = emptyT := by simp [firstT, emptyT]
theorem firstT_all {x : TileD} (H : TilP x) : firstT x x.letters.size = { x with blanks := 0 } := by
  unfold firstT
  rw [show x.letters.size = x.letters.data.toList.length by simp, List.take_length, List.take_of_length_le (by have := H.lv; simp; omega), List.take_of_length_le (by have := H.lc; simp; omega)]
theorem spec_first {x : TileD} (H : TilP x) : ∀ j, j ≤ x.letters.size → foldO specStep emptyT ((List.range j).map (tileW x)) = some (firstT x j)
  | 0, _ => by rw [firstT_zero]; rfl
  | j + 1, hj => by
    rw [List.range_succ, List.map_append, foldO_append specStep _ _ _ _ (spec_first H j (by omega)), List.map_cons, List.map_nil]
    simp only [foldO, specStep_tile H (show j < x.letters.size by omega)]
/-- The reference's reading of a valid tile set's text gives it back. -/
theorem spec_reads {x : TileD} (H : TilP x) : foldO specStep emptyT (splitC 32 (textL x)) = some x := by
  rw [textL_split H]
  unfold wordsL
  rw [foldO_append specStep _ _ _ _ (spec_first H _ (Nat.le_refl _)), firstT_all H]
  by_cases hb : 0 < x.blanks
  · rw [if_pos hb]
    simp only [foldO, specStep, blank_split H.b0, if_true, readD_itoa H.b0 (by have := H.b4; omega)]
    rw [if_pos ⟨rfl, hb⟩]
    rfl
  · have h0 : x.blanks = 0 := by have := H.b0; omega
    rw [if_neg hb]
    cases x
    simp only at h0
    subst h0
    rfl
/-- The program's step. -/
def implStep (t : TileD) (w : List UInt8) : Option TileD :=
  match w with
  | [] => none
  | c :: rest =>
    if c = 63 then some { t with blanks := (readD (Lib.cut rest [120]).2.1).getD 0 }
    else if 26 < t.letters.size + 1 then none
    else some { letters := t.letters ++ ⟨#[c]⟩, values := t.values ++ [(readD (Lib.cut rest [120]).1).getD 0], counts := t.counts ++ [(readD (Lib.cut rest [120]).2.1).getD 0], blanks := t.blanks }
theorem indexByte_app (c : UInt8) : ∀ (p r : List UInt8), (∀ b ∈ p, b ≠ c) → Lib.indexByte (p ++ c :: r) c = (p.length : Int)
  | [], r, _ => by simp [Lib.indexByte]
  | a :: p, r, h => by
    have ih := indexByte_app c p r (fun b hb => h b (List.mem_cons_of_mem _ hb))
    have ha := h a (List.mem_cons_self ..)
    simp only [List.cons_append, Lib.indexByte]
    simp [ha, ih]
theorem cut_app {c : UInt8} {p r : List UInt8} (h : ∀ b ∈ p, b ≠ c) : Lib.cut (p ++ c :: r) [c] = (p, r, true) := by
  have hi : Lib.index (p ++ c :: r) [c] = (p.length : Int) := by rw [Lib.index_one]; exact indexByte_app c p r h
  unfold Lib.cut
  rw [hi, if_pos (by omega)]
  simp
theorem implStep_tile {x : TileD} (H : TilP x) {j : Nat} (hj : j < x.letters.size) : implStep (firstT x j) (tileW x j) = some (firstT x (j + 1)) := by
  have hv : j < x.values.length := by have := H.lv; omega
  have hc : j < x.counts.length := by have := H.lc; omega
  have hs := H.sm j hj
  have hl : 97 ≤ x.letters[j].toNat := by simp [smallI] at hs; omega
  have hco := H.co j hc
  have hn2 := H.n2
  have nv : ∀ b ∈ Lib.itoa x.values[j], b ≠ 120 := by intro b hb e; subst e; have := itoa_dig (H.va j hv).1 _ hb; simp at this
  rw [tileW_at hj hv hc]
  have hne : ¬ (x.letters[j] = 63) := by intro e; rw [e] at hl; simp at hl
  have hsz : (firstT x j).letters.size = j := by
    show (x.letters.data.toList.take j).toArray.size = j
    simp; omega
  have hll : j < x.letters.data.toList.length := by simpa using hj
  unfold implStep
  simp only [if_neg hne, cut_app nv, readD_itoa (H.va j hv).1 (H.va j hv).2, readD_itoa (n := x.counts[j]) (by omega) hco.2]
  rw [if_neg (by rw [hsz]; omega)]
  unfold firstT
  rw [List.take_succ_eq_append_getElem hv, List.take_succ_eq_append_getElem hc, List.take_succ_eq_append_getElem hll]
  simp [ba_append]
  rfl
theorem impl_first {x : TileD} (H : TilP x) : ∀ j, j ≤ x.letters.size → foldO implStep emptyT ((List.range j).map (tileW x)) = some (firstT x j)
  | 0, _ => by rw [firstT_zero]; rfl
  | j + 1, hj => by
    rw [List.range_succ, List.map_append, foldO_append implStep _ _ _ _ (impl_first H j (by omega)), List.map_cons, List.map_nil]
    simp only [foldO, implStep_tile H (show j < x.letters.size by omega)]
/-- The program's reading of a valid tile set's text gives it back. -/
theorem impl_reads {x : TileD} (H : TilP x) : foldO implStep emptyT (splitC 32 (textL x)) = some x := by
  rw [textL_split H]
  unfold wordsL
  rw [foldO_append implStep _ _ _ _ (impl_first H _ (Nat.le_refl _)), firstT_all H]
  by_cases hb : 0 < x.blanks
  · have hcut : Lib.cut (120 :: Lib.itoa x.blanks) [120] = ([], Lib.itoa x.blanks, true) := cut_app (p := []) (by simp)
    rw [if_pos hb]
    simp only [foldO, implStep, if_true, hcut, readD_itoa H.b0 (by have := H.b4; omega)]
    rfl
  · have h0 : x.blanks = 0 := by have := H.b0; omega
    rw [if_neg hb]
    cases x
    simp only at h0
    subst h0
    rfl
/-- The tile set that a text is of. -/
noncomputable def readT (l : List UInt8) : Option TileD := open Classical in if h : ∃ x, TilP x ∧ textL x = l then some h.choose else none
theorem readT_some {x : TileD} (H : TilP x) : readT (textL x) = some x := by
  have h : ∃ y, TilP y ∧ textL y = textL x := ⟨x, H, rfl⟩
  unfold readT
  rw [dif_pos h]
  have h1 := spec_reads h.choose_spec.1
  rw [h.choose_spec.2, spec_reads H] at h1
  exact h1.symm
theorem readT_none {l : List UInt8} (h : ∀ x, TilP x → textL x ≠ l) : readT l = none := by
  unfold readT; rw [dif_neg]; rintro ⟨x, H, e⟩; exact h x H e
/-- A reading by steps, and the checks behind it. -/
theorem readT_fold {f : TileD → List UInt8 → Option TileD} (hf : ∀ x, TilP x → foldO f emptyT (splitC 32 (textL x)) = some x) (l : List UInt8) :
    readT l = match foldO f emptyT (splitC 32 l) with | none => none | some t => if tilB t = true ∧ textL t = l then some t else none := by
  by_cases h : ∃ x, TilP x ∧ textL x = l
  · obtain ⟨x, H, rfl⟩ := h
    rw [readT_some H, hf x H]
    simp only
    rw [if_pos ⟨(tilB_true H).symm, trivial⟩]
  · rw [readT_none (fun x H e => h ⟨x, H, e⟩)]
    cases hfo : foldO f emptyT (splitC 32 l) with
    | none => rfl
    | some t =>
      simp only
      rw [if_neg]
      rintro ⟨h1, h2⟩
      exact h ⟨t, tilB_P h1, h2⟩
end Go.Proofs.YtinmmbnlflmobaaGreatDoor
