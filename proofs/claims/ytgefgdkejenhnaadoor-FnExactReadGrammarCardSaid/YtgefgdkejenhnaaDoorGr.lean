/- Grammars as arguments: slices of affixes and of stems; how one is opened. No condition but the readings. -/
import Derived.Test.YtgefgdkejenhnaaDoorG
namespace Go.Proofs.YtgefgdkejenhnaaDoor
open Go.Joins Go.ChangeShapes Go.WideShapes Go.ChangeAt Go.RowKit Go.Deep
/-! ### rows of rows -/
theorem flat_len {α β : Type} (f : α → List β) (m : Nat) (hf : ∀ x, (f x).length = m) : ∀ l : List α, (l.flatMap f).length = l.length * m
  | [] => by simp
  | a :: l => by rw [List.flatMap_cons, List.length_append, flat_len f m hf l, hf, List.length_cons, Nat.succ_mul, Nat.add_comm]
theorem flat_get {α β : Type} (f : α → List β) (m : Nat) (hf : ∀ x, (f x).length = m) : ∀ (l : List α) (j : Nat) (hj : j < l.length) (i : Nat), i < m → (l.flatMap f)[j * m + i]? = (f l[j])[i]?
  | a :: l, 0, _, i, hi => by rw [List.flatMap_cons, Nat.zero_mul, Nat.zero_add, List.getElem?_append_left (by rw [hf]; exact hi)]; rfl
  | a :: l, j + 1, hj, i, hi => by
    rw [List.flatMap_cons, List.getElem?_append_right (by rw [hf, Nat.succ_mul]; omega), hf, show (j + 1) * m + i - m = j * m + i by rw [Nat.succ_mul]; omega, flat_get f m hf l j (by simpa using hj) i hi]
    rfl
theorem flat_split {α β : Type} (f : α → List β) (l : List α) (j : Nat) (hj : j < l.length) : l.flatMap f = (l.take j).flatMap f ++ f l[j] ++ (l.drop (j + 1)).flatMap f := by
  conv => lhs; rw [← List.take_append_drop j l, List.drop_eq_getElem_cons hj]
  rw [List.flatMap_append, List.flatMap_cons, List.append_assoc]
theorem mid_set {β : Type} (A B C : List β) (i : Nat) (hi : i < B.length) (u : β) : (A ++ B ++ C).set (A.length + i) u = A ++ B.set i u ++ C := by
  rw [List.append_assoc, List.set_append_right _ _ (by omega), Nat.add_sub_cancel_left, List.set_append_left _ _ hi, List.append_assoc]
section
variable {H : Type} {enc : TypeId × Value → H} {P : Program} {w : World} {base : Nat} {held : Bool}
theorem cells_at {a : Addr} {n : Nat} {cs : List Value} (h : w.cells? base a n = some cs) : cs.length = n ∧ ∀ i, i < n → w.cell? (a.add i) = cs[i]? := by
  have := World.cells?_some h
  exact ⟨this.2.1, this.2.2⟩
/-- A slice of structs, its rows. -/
theorem slice_open {t e : TypeId} {m fuel : Nat} {s : Value} {x : DataW H × List MemPlace} (ht : P.underlying t = some (.slice e)) (hc : P.cellsOf e = m) (hm : 0 < m)
    (h : DataW.trod enc P w base (fun _ => true) held fuel t [s] = some x) :
    ∃ (n : Nat) (rows : List (List Value)), SlR w m s rows.length rows.flatten ∧ ∀ r ∈ rows, r.length = m ∧ ∃ y, DataW.trod enc P w base (fun _ => true) held n e r = some y := by
  rcases DataW.trod_slice ht h with ⟨h1, _⟩ | ⟨a, len, cap, elems, rest, n, _, h1, _, hb, hl, hcap, hlen, hel, _, _⟩
  · obtain rfl : s = .slice none 0 0 := by simpa using h1
    exact ⟨0, [], ⟨by simp, none, 0, rfl, Nat.le_refl _, by unfold maxLen; omega, fun j u hj => by simp at hj⟩, by simp⟩
  · obtain rfl : s = .slice (some a) len cap := by simpa using h1
    rw [hc] at hel
    have each : ∀ i, i < len → ∃ r : List Value, (r.length = m ∧ ∃ y, DataW.trod enc P w base (fun _ => true) held n e r = some y) ∧ ∀ k, k < m → w.cell? ((a.add (i * m)).add k) = r[k]? := by
      intro i hi
      have := hel i hi
      rw [List.getElem?_eq_getElem (by omega), Option.bind_eq_some_iff] at this
      obtain ⟨cs', hcs, hy⟩ := this
      obtain ⟨q1, q2⟩ := cells_at hcs
      exact ⟨cs', ⟨q1, _, hy⟩, q2⟩
    obtain ⟨rows, hrl, hrows⟩ : ∃ rows : List (List Value), rows.length = len ∧ ∀ i (h : i < rows.length), (rows[i].length = m ∧ ∃ y, DataW.trod enc P w base (fun _ => true) held n e rows[i] = some y) ∧ ∀ k, k < m → w.cell? ((a.add (i * m)).add k) = rows[i][k]? := by
      refine ⟨(List.range len).map fun i => if h : i < len then (each i h).choose else [], by simp, fun i hi => ?_⟩
      have hi' : i < len := by simpa using hi
      rw [List.getElem_map, List.getElem_range, dif_pos hi']
      exact (each i hi').choose_spec
    have hmem : ∀ r ∈ rows, r.length = m ∧ ∃ y, DataW.trod enc P w base (fun _ => true) held n e r = some y := by
      intro r hr
      obtain ⟨i, hi, rfl⟩ := List.getElem_of_mem hr
      exact (hrows i hi).1
    have hfl : ∀ (L : List (List Value)), (∀ r ∈ L, r.length = m) → L.flatten.length = L.length * m := by
      intro L
      induction L with
      | nil => intro _; simp
      | cons r L ih => intro hL; rw [List.flatten_cons, List.length_append, ih (fun r hr => hL r (List.mem_cons_of_mem _ hr)), hL r (List.mem_cons_self ..), List.length_cons, Nat.succ_mul, Nat.add_comm]
    have hfg : ∀ (L : List (List Value)), (∀ r ∈ L, r.length = m) → ∀ (j : Nat) (hj : j < L.length) (i : Nat), i < m → L.flatten[j * m + i]? = L[j][i]? := by
      intro L
      induction L with
      | nil => intro _ j hj; simp at hj
      | cons r L ih =>
        intro hL j hj i hi
        have hr := hL r (List.mem_cons_self ..)
        cases j with
        | zero => rw [List.flatten_cons, Nat.zero_mul, Nat.zero_add, List.getElem?_append_left (by omega)]; rfl
        | succ j =>
          rw [List.flatten_cons, List.getElem?_append_right (by rw [hr, Nat.succ_mul]; omega), hr, show (j + 1) * m + i - m = j * m + i by rw [Nat.succ_mul]; omega, ih (fun r hr => hL r (List.mem_cons_of_mem _ hr)) j (by simpa using hj) i hi]
          rfl
    refine ⟨n, rows, ⟨hfl rows (fun r hr => (hmem r hr).1), some a, cap, by rw [hrl], by omega, hcap, fun j u hj => ?_⟩, hmem⟩
    have hjl : j < rows.length * m := by
      have := (List.getElem?_eq_some_iff.1 hj).1
      rwa [hfl rows (fun r hr => (hmem r hr).1)] at this
    have hq : j / m < rows.length := by rw [Nat.div_lt_iff_lt_mul hm]; exact hjl
    have hr : j % m < m := Nat.mod_lt _ hm
    have hjq : j / m * m + j % m = j := by rw [Nat.mul_comm]; exact Nat.div_add_mod j m
    rw [← hjq, hfg rows (fun r hr => (hmem r hr).1) (j / m) hq (j % m) hr, ← (hrows (j / m) hq).2 (j % m) hr] at hj
    obtain ⟨b0, off0, rfl⟩ : ∃ b0 off0, a = ⟨b0, off0, none⟩ := by
      obtain ⟨b0, off0, s0⟩ := a
      cases s0 with
      | none => exact ⟨_, _, rfl⟩
      | some s0 =>
        have hpos : 0 < rows.length := Nat.lt_of_le_of_lt (Nat.zero_le _) hq
        have h0 := (hrows 0 hpos).2 0 hm
        have hr0 : 0 < (rows[0]'hpos).length := by rw [(hrows 0 hpos).1.1]; exact hm
        rw [List.getElem?_eq_getElem hr0] at h0
        obtain ⟨b, off, hb⟩ := cell_plain h0
        simp [Addr.add] at hb
    refine ⟨b0, off0, rfl, ?_⟩
    rw [add_plain, add_plain] at hj
    rw [← hj]
    congr 2
    omega
end
/-! ### affixes -/
def affL (x : AffD) : List Value := [.string x.name, .bool x.front, .string x.cond, .string x.strip, .string x.add]
theorem affL_len (x : AffD) : (affL x).length = 5 := rfl
def Affs (w : World) (v : Value) (l : List AffD) : Prop := SlR w 5 v l.length (l.flatMap affL) ∧ ∀ x ∈ l, AffLim x maxLen
def AffsW (w : World) (lo hi : Nat) (v : Value) (l : List AffD) : Prop := SlW w lo hi 64 5 v l.length (l.flatMap affL) ∧ ∀ x ∈ l, AffLim x maxLen
theorem Affs.below {w w' : World} {v l} (h : Affs w v l) (hb : Below w.heap.size w w') : Affs w' v l := ⟨h.1.below hb, h.2⟩
theorem AffsW.below {w w' : World} {lo hi v l} (h : AffsW w lo hi v l) (hb : Below w.heap.size w w') : AffsW w' lo hi v l := ⟨h.1.below hb, h.2⟩
theorem AffsW.kept {w w' : World} {lo hi lo' hi' v l} (h : AffsW w lo hi v l) (hb : Kept lo' hi' w w') (hd : hi ≤ lo' ∨ hi' ≤ lo) : AffsW w' lo hi v l := ⟨h.1.kept hb hd, h.2⟩
theorem AffsW.read {w : World} {lo hi v l} (h : AffsW w lo hi v l) : Affs w v l := ⟨h.1.read, h.2⟩
theorem AffsW.mono {w : World} {lo hi lo' hi' v l} (h : AffsW w lo hi v l) (hl : lo' ≤ lo) (hh : hi ≤ hi') : AffsW w lo' hi' v l := ⟨h.1.mono hl hh, h.2⟩
/-- The value's shape and its cells. -/
theorem Affs.shape {w : World} {v l} (h : Affs w v l) : ∃ a c, v = .slice a l.length c ∧ l.length ≤ c ∧ c ≤ maxLen ∧
    ∀ j, (hj : j < l.length) → ∃ b off, a = some ⟨b, off, none⟩ ∧ w.cell? ⟨b, off + j * 5, none⟩ = some (.string l[j].name) ∧ w.cell? ⟨b, off + j * 5 + 1, none⟩ = some (.bool l[j].front) ∧ w.cell? ⟨b, off + j * 5 + 2, none⟩ = some (.string l[j].cond) ∧
      w.cell? ⟨b, off + j * 5 + 3, none⟩ = some (.string l[j].strip) ∧ w.cell? ⟨b, off + j * 5 + 4, none⟩ = some (.string l[j].add) ∧ AffLim l[j] maxLen := by
  obtain ⟨⟨_, a, c, h1, h2, h3, h4⟩, h5⟩ := h
  refine ⟨a, c, h1, h2, h3, fun j hj => ?_⟩
  have g := fun i hi => flat_get affL 5 affL_len l j hj i hi
  obtain ⟨b, off, e, hc0⟩ := h4 _ _ (g 0 (by omega))
  subst e
  refine ⟨b, off, rfl, hc0, ?_, ?_, ?_, ?_, h5 _ (List.getElem_mem _)⟩
  all_goals
    first
    | (obtain ⟨b', off', e, hc⟩ := h4 _ _ (g 1 (by omega)); cases e; exact hc)
    | (obtain ⟨b', off', e, hc⟩ := h4 _ _ (g 2 (by omega)); cases e; exact hc)
    | (obtain ⟨b', off', e, hc⟩ := h4 _ _ (g 3 (by omega)); cases e; exact hc)
    | (obtain ⟨b', off', e, hc⟩ := h4 _ _ (g 4 (by omega)); cases e; exact hc)
/-! ### stems -/
structure StemD where
  word : ByteArray
  uses : List ByteArray
deriving DecidableEq
def stemL (p : StemD × Value) : List Value := [.string p.1.word, p.2]
theorem stemL_len (p : StemD × Value) : (stemL p).length = 2 := rfl
def Stems (w : World) (v : Value) (l : List StemD) : Prop := ∃ us : List Value, us.length = l.length ∧ SlR w 2 v l.length ((l.zip us).flatMap stemL) ∧ ∀ j (h : j < l.length) (h' : j < us.length), l[j].word.size ≤ maxLen ∧ Strs w us[j] l[j].uses
def StemsW (w : World) (lo hi : Nat) (v : Value) (l : List StemD) : Prop := ∃ us : List Value, us.length = l.length ∧ SlW w lo hi 67 2 v l.length ((l.zip us).flatMap stemL) ∧ ∀ j (h : j < l.length) (h' : j < us.length), l[j].word.size ≤ maxLen ∧ StrsW w lo hi us[j] l[j].uses
theorem Stems.below {w w' : World} {v l} (h : Stems w v l) (hb : Below w.heap.size w w') : Stems w' v l := by
  obtain ⟨us, h1, h2, h3⟩ := h; exact ⟨us, h1, h2.below hb, fun j h h' => ⟨(h3 j h h').1, (h3 j h h').2.below hb⟩⟩
theorem StemsW.below {w w' : World} {lo hi v l} (h : StemsW w lo hi v l) (hb : Below w.heap.size w w') : StemsW w' lo hi v l := by
  obtain ⟨us, h1, h2, h3⟩ := h; exact ⟨us, h1, h2.below hb, fun j h h' => ⟨(h3 j h h').1, (h3 j h h').2.below hb⟩⟩
theorem StemsW.kept {w w' : World} {lo hi lo' hi' v l} (h : StemsW w lo hi v l) (hb : Kept lo' hi' w w') (hd : hi ≤ lo' ∨ hi' ≤ lo) : StemsW w' lo hi v l := by
  obtain ⟨us, h1, h2, h3⟩ := h; exact ⟨us, h1, h2.kept hb hd, fun j h h' => ⟨(h3 j h h').1, (h3 j h h').2.kept hb hd⟩⟩
theorem StemsW.read {w : World} {lo hi v l} (h : StemsW w lo hi v l) : Stems w v l := by
  obtain ⟨us, h1, h2, h3⟩ := h; exact ⟨us, h1, h2.read, fun j h h' => ⟨(h3 j h h').1, (h3 j h h').2.read⟩⟩
theorem StemsW.mono {w : World} {lo hi lo' hi' v l} (h : StemsW w lo hi v l) (hl : lo' ≤ lo) (hh : hi ≤ hi') : StemsW w lo' hi' v l := by
  obtain ⟨us, h1, h2, h3⟩ := h; exact ⟨us, h1, h2.mono hl hh, fun j h h' => ⟨(h3 j h h').1, (h3 j h h').2.mono hl hh⟩⟩
theorem Stems.shape {w : World} {v l} (h : Stems w v l) : ∃ a c, v = .slice a l.length c ∧ l.length ≤ c ∧ c ≤ maxLen ∧
    ∀ j, (hj : j < l.length) → ∃ b off u, a = some ⟨b, off, none⟩ ∧ w.cell? ⟨b, off + j * 2, none⟩ = some (.string l[j].word) ∧ w.cell? ⟨b, off + j * 2 + 1, none⟩ = some u ∧ l[j].word.size ≤ maxLen ∧ Strs w u l[j].uses := by
  obtain ⟨us, hu, ⟨_, a, c, h1, h2, h3, h4⟩, h5⟩ := h
  refine ⟨a, c, h1, h2, h3, fun j hj => ?_⟩
  have hj' : j < us.length := by omega
  have g := fun i hi => flat_get stemL 2 stemL_len (l.zip us) j (by simp; omega) i hi
  obtain ⟨b, off, e, hc0⟩ := h4 _ _ (g 0 (by omega))
  subst e
  obtain ⟨b', off', e, hc1⟩ := h4 _ _ (g 1 (by omega))
  cases e
  refine ⟨b, off, us[j], rfl, ?_, ?_, h5 j hj hj'⟩
  · simpa [stemL] using hc0
  · simpa [stemL, Nat.add_assoc] using hc1
/-! ### grammars -/
structure GraD where
  affixes : List AffD
  stems : List StemD
deriving DecidableEq
def GraR (w : World) (v : Value) (x : GraD) : Prop := ∃ s1 s2, v = .agg #[s1, s2] ∧ Affs w s1 x.affixes ∧ Stems w s2 x.stems
def GraW (w : World) (lo hi : Nat) (v : Value) (x : GraD) : Prop := ∃ s1 s2, v = .agg #[s1, s2] ∧ AffsW w lo hi s1 x.affixes ∧ StemsW w lo hi s2 x.stems
theorem GraR.below {w w' : World} {v x} (h : GraR w v x) (hb : Below w.heap.size w w') : GraR w' v x := by obtain ⟨s1, s2, e, h1, h2⟩ := h; exact ⟨s1, s2, e, h1.below hb, h2.below hb⟩
theorem GraW.below {w w' : World} {lo hi v x} (h : GraW w lo hi v x) (hb : Below w.heap.size w w') : GraW w' lo hi v x := by obtain ⟨s1, s2, e, h1, h2⟩ := h; exact ⟨s1, s2, e, h1.below hb, h2.below hb⟩
theorem GraW.kept {w w' : World} {lo hi lo' hi' v x} (h : GraW w lo hi v x) (hb : Kept lo' hi' w w') (hd : hi ≤ lo' ∨ hi' ≤ lo) : GraW w' lo hi v x := by obtain ⟨s1, s2, e, h1, h2⟩ := h; exact ⟨s1, s2, e, h1.kept hb hd, h2.kept hb hd⟩
theorem GraW.read {w : World} {lo hi v x} (h : GraW w lo hi v x) : GraR w v x := by obtain ⟨s1, s2, e, h1, h2⟩ := h; exact ⟨s1, s2, e, h1.read, h2.read⟩
theorem GraW.mono {w : World} {lo hi lo' hi' v x} (h : GraW w lo hi v x) (hl : lo' ≤ lo) (hh : hi ≤ hi') : GraW w lo' hi' v x := by obtain ⟨s1, s2, e, h1, h2⟩ := h; exact ⟨s1, s2, e, h1.mono hl hh, h2.mono hl hh⟩
theorem GraR.shape {w : World} {v x} (h : GraR w v x) : ∃ a c b d, v = .agg #[.slice a x.affixes.length c, .slice b x.stems.length d] := by
  obtain ⟨s1, s2, rfl, h1, h2⟩ := h
  obtain ⟨a, c, rfl, _⟩ := h1.shape
  obtain ⟨b, d, rfl, _⟩ := h2.shape
  exact ⟨a, c, b, d, rfl⟩
theorem GraW.shape {w : World} {lo hi v x} (h : GraW w lo hi v x) : ∃ a c b d, v = .agg #[.slice a x.affixes.length c, .slice b x.stems.length d] := h.read.shape
section
variable {H : Type} {enc : TypeId × Value → H} {w : World} {base : Nat} {held : Bool}
/-- The fields of a struct's row. -/
theorem row_struct {P : Program} {enc : TypeId × Value → H} {t : TypeId} {fs : Array Field} {n : Nat} {r : List Value} {y : DataW H × List MemPlace} (ht : P.underlying t = some (.struct fs)) (h : DataW.trod enc P w base (fun _ => true) held n t r = some y) :
    ∃ (xs : List (DataW H × List MemPlace)) (n' : Nat), xs.length = fs.size ∧ ∀ (i : Nat) (f : Field), fs[i]? = some f → DataW.trod enc P w base (fun _ => true) held n' f.type ((r.drop f.offset).take (P.cellsOf f.type)) = xs[i]? := by
  obtain ⟨xs, n', _, _, _, h1, h2⟩ := DataW.trod_struct ht h
  exact ⟨xs, n', h1, h2⟩
set_option maxRecDepth 100000 in
theorem aff_row {n : Nat} {r : List Value} {y : DataW H × List MemPlace} (h : DataW.trod enc Tryd.prog w base (fun _ => true) held n 104 r = some y) (hl : r.length = 5) : ∃ x, r = affL x ∧ AffLim x maxLen := by
  obtain ⟨xs, n', hx, hg⟩ := row_struct Tryd.underlying104 h
  have c9 : Tryd.prog.cellsOf 9 = 1 := by kernel_rfl
  have cb : Tryd.prog.cellsOf 4 = 1 := by kernel_rfl
  match r, hl, xs, hx with
  | [c0, c1, c2, c3, c4], _, [y0, y1, y2, y3, y4], _ =>
    obtain ⟨s0, e0, -, w0⟩ := DataW.trod_string Tryd.underlying9 (by simpa [c9] using hg 0 _ rfl : DataW.trod enc Tryd.prog w base (fun _ => true) held n' 9 [c0] = some y0)
    obtain ⟨s1, e1, -⟩ := DataW.trod_bool Tryd.underlying4 (by simpa [cb] using hg 1 _ rfl : DataW.trod enc Tryd.prog w base (fun _ => true) held n' 4 [c1] = some y1)
    obtain ⟨s2, e2, -, w2⟩ := DataW.trod_string Tryd.underlying9 (by simpa [c9] using hg 2 _ rfl : DataW.trod enc Tryd.prog w base (fun _ => true) held n' 9 [c2] = some y2)
    obtain ⟨s3, e3, -, w3⟩ := DataW.trod_string Tryd.underlying9 (by simpa [c9] using hg 3 _ rfl : DataW.trod enc Tryd.prog w base (fun _ => true) held n' 9 [c3] = some y3)
    obtain ⟨s4, e4, -, w4⟩ := DataW.trod_string Tryd.underlying9 (by simpa [c9] using hg 4 _ rfl : DataW.trod enc Tryd.prog w base (fun _ => true) held n' 9 [c4] = some y4)
    obtain rfl : c0 = .string s0 := by simpa using e0
    obtain rfl : c1 = .bool s1 := by simpa using e1
    obtain rfl : c2 = .string s2 := by simpa using e2
    obtain rfl : c3 = .string s3 := by simpa using e3
    obtain rfl : c4 = .string s4 := by simpa using e4
    exact ⟨⟨s0, s1, s2, s3, s4⟩, rfl, w0, w2, w3, w4⟩
set_option maxRecDepth 100000 in
theorem stem_row {n : Nat} {r : List Value} {y : DataW H × List MemPlace} (h : DataW.trod enc Tryd.prog w base (fun _ => true) held n 106 r = some y) (hl : r.length = 2) : ∃ x u, r = stemL (x, u) ∧ x.word.size ≤ maxLen ∧ Strs w u x.uses := by
  obtain ⟨xs, n', hx, hg⟩ := row_struct Tryd.underlying106 h
  have c9 : Tryd.prog.cellsOf 9 = 1 := by kernel_rfl
  have cs : Tryd.prog.cellsOf 35 = 1 := by kernel_rfl
  match r, hl, xs, hx with
  | [c0, c1], _, [y0, y1], _ =>
    obtain ⟨s0, e0, -, w0⟩ := DataW.trod_string Tryd.underlying9 (by simpa [c9] using hg 0 _ rfl : DataW.trod enc Tryd.prog w base (fun _ => true) held n' 9 [c0] = some y0)
    obtain ⟨l, hl⟩ := strs_of_trod Tryd.underlying35 Tryd.underlying9 (by kernel_rfl) (by simpa [cs] using hg 1 _ rfl : DataW.trod enc Tryd.prog w base (fun _ => true) held n' 35 [c1] = some y1)
    obtain rfl : c0 = .string s0 := by simpa using e0
    exact ⟨⟨s0, l⟩, c1, rfl, w0, hl⟩
set_option maxRecDepth 100000 in
theorem affs_of_trod {n : Nat} {s : Value} {y : DataW H × List MemPlace} (h : DataW.trod enc Tryd.prog w base (fun _ => true) held n 22 [s] = some y) : ∃ l, Affs w s l := by
  obtain ⟨n', rows, h1, h2⟩ := slice_open (m := 5) Tryd.underlying22 (by kernel_rfl) (by omega) h
  obtain ⟨l, hl, hlim⟩ : ∃ l : List AffD, rows = l.map affL ∧ ∀ x ∈ l, AffLim x maxLen := by
    clear h1
    induction rows with
    | nil => exact ⟨[], rfl, by simp⟩
    | cons r rows ih =>
      obtain ⟨l, hl, hlim⟩ := ih fun r hr => h2 r (List.mem_cons_of_mem _ hr)
      obtain ⟨hr, y', hy⟩ := h2 r (List.mem_cons_self ..)
      obtain ⟨x, hx, hxl⟩ := aff_row hy hr
      exact ⟨x :: l, by rw [hl, hx]; rfl, by intro z hz; rcases List.mem_cons.1 hz with rfl | hz; exact hxl; exact hlim z hz⟩
  subst hl
  refine ⟨l, ?_, hlim⟩
  rw [List.length_map, ← List.flatMap_def] at h1
  exact h1
set_option maxRecDepth 100000 in
theorem stems_of_trod {n : Nat} {s : Value} {y : DataW H × List MemPlace} (h : DataW.trod enc Tryd.prog w base (fun _ => true) held n 23 [s] = some y) : ∃ l, Stems w s l := by
  obtain ⟨n', rows, h1, h2⟩ := slice_open (m := 2) Tryd.underlying23 (by kernel_rfl) (by omega) h
  obtain ⟨l, hl, hlim⟩ : ∃ l : List (StemD × Value), rows = l.map stemL ∧ ∀ p ∈ l, p.1.word.size ≤ maxLen ∧ Strs w p.2 p.1.uses := by
    clear h1
    induction rows with
    | nil => exact ⟨[], rfl, by simp⟩
    | cons r rows ih =>
      obtain ⟨l, hl, hlim⟩ := ih fun r hr => h2 r (List.mem_cons_of_mem _ hr)
      obtain ⟨hr, y', hy⟩ := h2 r (List.mem_cons_self ..)
      obtain ⟨x, u, hx, hw, hs⟩ := stem_row hy hr
      exact ⟨(x, u) :: l, by rw [hl, hx]; rfl, by intro z hz; rcases List.mem_cons.1 hz with rfl | hz; exact ⟨hw, hs⟩; exact hlim z hz⟩
  subst hl
  refine ⟨l.map (·.1), l.map (·.2), by simp, ?_, ?_⟩
  · rw [List.length_map, ← List.flatMap_def] at h1
    rw [List.length_map, List.zip_map', show (l.map fun a => (a.1, a.2)) = l by simp]
    exact h1
  · intro j hj hj'
    have := hlim (l[j]'(by simpa using hj)) (List.getElem_mem _)
    simpa using this
set_option maxRecDepth 100000 in
theorem open_Grammar {W : World} {b0 : Nat} {v : Value} {d : DataW H} {p : List MemPlace}
    (hv : Value.okWide Tryd.prog W .any b0 25 v) (h : DataW.Trod enc Tryd.prog W 0 (fun _ => true) held 25 v d p) : ∃ x, GraR W v x := by
  obtain ⟨v0, v1, y0, y1, n, rfl, -, -, h0, h1⟩ := Joins.open_agg2 Tryd.underlying25 (by kernel_rfl) (by kernel_rfl) hv h
  obtain ⟨l1, r1⟩ := affs_of_trod h0
  obtain ⟨l2, r2⟩ := stems_of_trod h1
  exact ⟨⟨l1, l2⟩, v0, v1, rfl, r1, r2⟩
end
end Go.Proofs.YtgefgdkejenhnaaDoor
