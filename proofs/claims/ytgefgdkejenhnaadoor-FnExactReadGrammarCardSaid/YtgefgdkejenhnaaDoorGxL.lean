/- The text of a grammar, plainly. No program is walked. -/
import Derived.Test.YtgefgdkejenhnaaDoorVg
import Derived.Lib.Join
namespace Go.Proofs.YtgefgdkejenhnaaDoor
/-- A part of a word as it is written: a hyphen for none. -/
def dashB (s : ByteArray) : ByteArray := if s.toList.isEmpty then ⟨#[45]⟩ else s
def sideB (f : Bool) : ByteArray := if f then ⟨#[102, 114, 111, 110, 116]⟩ else ⟨#[98, 97, 99, 107]⟩
theorem dashB_le {s : ByteArray} (h : s.size ≤ 4) : (dashB s).size ≤ 4 := by
  unfold dashB; split
  · decide
  · exact h
theorem sideB_le (f : Bool) : (sideB f).size ≤ 5 := by cases f <;> decide
/-- The line of an affix. -/
def affT (x : AffD) : List UInt8 := [97, 102, 102, 105, 120, 32] ++ x.name.data.toList ++ [32] ++ (sideB x.front).data.toList ++ [32] ++ (dashB x.cond).data.toList ++ [32] ++ (dashB x.strip).data.toList ++ [32] ++ (dashB x.add).data.toList ++ [10]
/-- The line of a stem, with its first k uses and without its end. -/
def usesT (l : List ByteArray) : List UInt8 := l.flatMap fun u => 32 :: u.data.toList
def stmT (s : StemD) : List UInt8 := [115, 116, 101, 109, 32] ++ s.word.data.toList ++ usesT s.uses ++ [10]
def textG (g : GraD) : List UInt8 := g.affixes.flatMap affT ++ g.stems.flatMap stmT
noncomputable def gtV (g : GraD) : ByteArray := if graB g = true then ⟨(textG g).toArray⟩ else ⟨#[]⟩
theorem gtV_no {g : GraD} (h : graB g = false) : gtV g = ⟨#[]⟩ := by simp [gtV, h]
theorem gtV_yes {g : GraD} (h : graB g = true) : gtV g = ⟨(textG g).toArray⟩ := by simp [gtV, h]
theorem flat_snoc {α β : Type} (f : α → List β) (l : List α) (j : Nat) (h : j < l.length) : (l.take (j + 1)).flatMap f = (l.take j).flatMap f ++ f l[j] := by
  rw [List.take_succ_eq_append_getElem h, List.flatMap_append]; simp
theorem flat_all {α β : Type} (f : α → List β) (l : List α) : (l.take l.length).flatMap f = l.flatMap f := by rw [List.take_length]
theorem flat_bound {α β : Type} (f : α → List β) (m : Nat) : ∀ l : List α, (∀ x ∈ l, (f x).length ≤ m) → (l.flatMap f).length ≤ l.length * m
  | [], _ => by simp
  | a :: l, h => by
    rw [List.flatMap_cons, List.length_append, List.length_cons, Nat.succ_mul]
    have h1 := h a (List.mem_cons_self ..)
    have h2 := flat_bound f m l fun x hx => h x (List.mem_cons_of_mem _ hx)
    omega
/-- Sizes of a valid affix. -/
structure AffS (x : AffD) : Prop where
  n : 1 ≤ x.name.size ∧ x.name.size ≤ 12
  c : x.cond.size ≤ 4
  s : x.strip.size ≤ 4
  a : x.add.size ≤ 4
theorem affB_sizes {x : AffD} (h : affB x = true) : AffS x := by
  obtain ⟨h1, h2, h3, h4, -⟩ := affB_parts h
  refine ⟨?_, lettersB_le h2, lettersB_le h3, lettersB_le h4⟩
  simp only [isName, inI, Bool.and_eq_true, decide_eq_true_eq] at h1
  omega
theorem affT_le {x : AffD} (h : AffS x) : (affT x).length ≤ 48 := by
  have h1 := h.n; have h2 := dashB_le h.c; have h3 := dashB_le h.s; have h4 := dashB_le h.a; have h5 := sideB_le x.front
  simp [affT]; omega
theorem nodup_le {α : Type} [DecidableEq α] : ∀ (a b : List α), a.Nodup → (∀ x ∈ a, x ∈ b) → a.length ≤ b.length
  | [], _, _, _ => by simp
  | x :: a, b, hn, h => by
    have hx := h x (List.mem_cons_self ..)
    have hn := List.nodup_cons.1 hn
    have := nodup_le a (b.erase x) hn.2 fun y hy => (List.mem_erase_of_ne (fun e => hn.1 (by subst e; exact hy))).2 (h y (List.mem_cons_of_mem _ hy))
    rw [List.length_erase_of_mem hx] at this
    have h0 := List.length_pos_of_mem hx
    simp only [List.length_cons]; omega
theorem inc_nodup {l : List ByteArray} (h : IncTo l l.length) : l.Nodup := by
  refine List.pairwise_iff_getElem.2 fun i j hi hj hij e => ?_
  have key : ∀ d i, (hd : i + d + 1 < l.length) → Op.bytesLess l[i].toList l[i + d + 1].toList = true := by
    intro d
    induction d with
    | zero => intro i hd; exact h i (by omega) hd
    | succ d ih => intro i hd; exact bl_trans _ _ _ (ih i (by omega)) (h (i + d + 1) (by omega) hd)
  obtain ⟨d, rfl⟩ : ∃ d, j = i + d + 1 := ⟨j - i - 1, by omega⟩
  have := key d i hj
  rw [← e] at this
  rcases bl_tri l[i].toList l[i].toList with ⟨-, h2, -, -⟩ | ⟨h1, -⟩ | ⟨h1, -⟩
  · rw [h2] at this; cases this
  · rw [h1] at this; cases this
  · rw [h1] at this; cases this
/-- Sizes of a valid stem. -/
structure StmS (s : StemD) : Prop where
  w : 2 ≤ s.word.size ∧ s.word.size ≤ 12
  u : s.uses.length ≤ 12
  n : ∀ x ∈ s.uses, 1 ≤ x.size ∧ x.size ≤ 12
structure GraS (g : GraD) : Prop where
  a : g.affixes.length ≤ 12
  s : g.stems.length ≤ 30
  afs : ∀ j (h : j < g.affixes.length), AffS g.affixes[j]
  sts : ∀ j (h : j < g.stems.length), StmS g.stems[j]
theorem graS {g : GraD} (h : graB g = true) : GraS g := by
  have h : GraOk g := by
    by_cases h2 : GraOk g
    · exact h2
    · rw [graB_no h2] at h; cases h
  have has : ∀ j (h : j < g.affixes.length), AffS g.affixes[j] := fun j hj => affB_sizes (h.1 j hj).1
  refine ⟨h.2.2.1, h.2.2.2, has, fun j hj => ?_⟩
  have hs := h.2.1.1 j hj
  simp only [stemB, Bool.and_eq_true, List.all_eq_true] at hs
  obtain ⟨⟨h1, h2⟩, h3⟩ := hs
  have hmem : ∀ x ∈ g.stems[j].uses, x ∈ g.affixes.map (·.name) := fun x hx => by
    obtain ⟨a, ha, he⟩ := List.any_eq_true.1 (h1 x hx)
    exact List.mem_map.2 ⟨a, ha, by simpa using he⟩
  refine ⟨?_, ?_, fun x hx => ?_⟩
  · simp only [isLong, isWord, inI, Bool.and_eq_true, decide_eq_true_eq] at h3; omega
  · have := nodup_le _ _ (inc_nodup ((incB_iff _).1 h2)) hmem
    rw [List.length_map] at this
    have := h.2.2.1; omega
  · obtain ⟨a, ha, rfl⟩ := List.mem_map.1 (hmem x hx)
    obtain ⟨i, hi, rfl⟩ := List.getElem_of_mem ha
    exact (has i hi).n
theorem usesT_le {l : List ByteArray} (h : ∀ x ∈ l, x.size ≤ 12) : (usesT l).length ≤ l.length * 13 :=
  flat_bound _ 13 l fun x hx => by have := h x hx; simp; omega
theorem stmT_le {s : StemD} (h : StmS s) : (stmT s).length ≤ 180 := by
  have h1 := usesT_le fun x hx => (h.n x hx).2
  have h2 := h.w
  have h3 := h.u
  simp [stmT]; omega
theorem affs_le {g : GraD} (h : GraS g) (j : Nat) : ((g.affixes.take j).flatMap affT).length ≤ 576 := by
  have := flat_bound affT 48 (g.affixes.take j) fun x hx => by
    obtain ⟨i, hi, rfl⟩ := List.getElem_of_mem hx
    rw [List.getElem_take]; exact affT_le (h.afs i _)
  have h2 := h.a
  rw [List.length_take] at this
  omega
theorem stms_le {g : GraD} (h : GraS g) (j : Nat) : ((g.stems.take j).flatMap stmT).length ≤ 5400 := by
  have := flat_bound stmT 180 (g.stems.take j) fun x hx => by
    obtain ⟨i, hi, rfl⟩ := List.getElem_of_mem hx
    rw [List.getElem_take]; exact stmT_le (h.sts i _)
  have h2 := h.s
  rw [List.length_take] at this
  omega
theorem gtV_le (g : GraD) : (gtV g).size ≤ 6000 := by
  cases h : graB g
  · rw [gtV_no h]; decide
  · rw [gtV_yes h]
    have h1 := affs_le (graS h) g.affixes.length
    have h2 := stms_le (graS h) g.stems.length
    rw [flat_all] at h1 h2
    show (textG g).toArray.size ≤ _
    simp only [List.size_toArray, textG, List.length_append]; omega
/-- The words of a line of an affix, of a stem. -/
def affW (x : AffD) : List ByteArray := [⟨#[97, 102, 102, 105, 120]⟩, x.name, sideB x.front, dashB x.cond, dashB x.strip, dashB x.add]
def stmW (s : StemD) : List ByteArray := [⟨#[115, 116, 101, 109]⟩, s.word] ++ s.uses
theorem join_affW (x : AffD) : Lib.join ((affW x).map (·.data.toList)) [32] ++ [10] = affT x := by
  simp only [affW, List.map_cons, List.map_nil, Lib.join_cons, Lib.joinTail, affT]
  simp
theorem join_stmW (s : StemD) : Lib.join ((stmW s).map (·.data.toList)) [32] ++ [10] = stmT s := by
  simp only [stmW, List.cons_append, List.nil_append, List.map_cons, Lib.join_cons, Lib.joinTail, stmT, usesT]
  simp [List.flatMap]
  rfl
theorem joinA_le {x : AffD} (h : AffS x) : (Lib.join ((affW x).map (·.data.toList)) [32]).length ≤ 48 := by
  have h1 := affT_le h
  rw [← join_affW, List.length_append] at h1
  omega
theorem joinS_le {s : StemD} (h : StmS s) : (Lib.join ((stmW s).map (·.data.toList)) [32]).length ≤ 180 := by
  have h1 := stmT_le h
  rw [← join_stmW, List.length_append] at h1
  omega
end Go.Proofs.YtgefgdkejenhnaaDoor
