/- The derivations of a grammar, plainly: the ways to use at most two of some affixes; the words they lead to, and the lists of them. No program is walked. -/
import Derived.Test.YtgefgdkejenhnaaDoorWoL
import Derived.Test.YtgefgdkejenhnaaDoorInL
namespace Go.Proofs.YtgefgdkejenhnaaDoor
open Go.RowKit
/-- The ways that begin with a, their second among the first k. -/
def pairP (u : List ByteArray) (a : ByteArray) (k : Nat) : List (List ByteArray) := ((u.take k).filter fun b => !(a.toList == b.toList)).map fun b => [a, b]
theorem pairP_zero (u : List ByteArray) (a : ByteArray) : pairP u a 0 = [] := by simp [pairP]
theorem pairP_hit {u : List ByteArray} {a : ByteArray} {k : Nat} (hk : k < u.length) (h : (a.toList == u[k].toList) = false) : pairP u a (k + 1) = pairP u a k ++ [[a, u[k]]] := by
  unfold pairP; rw [List.take_succ_eq_append_getElem hk, List.filter_append, List.map_append]; simp [h]
theorem pairP_skip {u : List ByteArray} {a : ByteArray} {k : Nat} (hk : k < u.length) (h : (a.toList == u[k].toList) = true) : pairP u a (k + 1) = pairP u a k := by
  unfold pairP; rw [List.take_succ_eq_append_getElem hk, List.filter_append, List.map_append]; simp [h]
theorem pairP_le (u : List ByteArray) (a : ByteArray) (k : Nat) : (pairP u a k).length ≤ u.length := by
  unfold pairP; rw [List.length_map]
  exact Nat.le_trans (List.length_filter_le _ _) (by rw [List.length_take]; omega)
/-- The ways with at most one, of the first i. -/
def waysA (u : List ByteArray) (i : Nat) : List (List ByteArray) := [] :: (u.take i).map fun a => [a]
theorem waysA_succ {u : List ByteArray} {i : Nat} (h : i < u.length) : waysA u (i + 1) = waysA u i ++ [[u[i]]] := by
  unfold waysA; rw [List.take_succ_eq_append_getElem h, List.map_append]; rfl
theorem waysA_len {u : List ByteArray} {i : Nat} (h : i ≤ u.length) : (waysA u i).length = i + 1 := by
  unfold waysA; rw [List.length_cons, List.length_map, List.length_take]; omega
/-- All of these, the pairs that begin with one of the first i, and those of the i-th whose second is among the first k. -/
def waysTo (u : List ByteArray) (i k : Nat) : List (List ByteArray) := waysA u u.length ++ (u.take i).flatMap (fun a => pairP u a u.length) ++ (match u[i]? with
  | some a => pairP u a k
  | none => [])
def waysL (u : List ByteArray) : List (List ByteArray) := waysTo u u.length 0
theorem waysTo_zero (u : List ByteArray) : waysTo u 0 0 = waysA u u.length := by
  unfold waysTo
  cases u[0]? with
  | none => simp
  | some a => simp [pairP_zero]
theorem waysTo_next {u : List ByteArray} {i : Nat} (h : i < u.length) : waysTo u (i + 1) 0 = waysTo u i u.length := by
  unfold waysTo
  rw [List.getElem?_eq_getElem h, List.take_succ_eq_append_getElem h, List.flatMap_append]
  cases u[i + 1]? with
  | none => simp
  | some a => simp [pairP_zero]
theorem waysTo_hit {u : List ByteArray} {i k : Nat} (hi : i < u.length) (hk : k < u.length) (h : (u[i].toList == u[k].toList) = false) : waysTo u i (k + 1) = waysTo u i k ++ [[u[i], u[k]]] := by
  unfold waysTo
  rw [List.getElem?_eq_getElem hi]
  simp only []
  rw [pairP_hit hk h]; simp only [List.append_assoc]
theorem waysTo_skip {u : List ByteArray} {i k : Nat} (hi : i < u.length) (hk : k < u.length) (h : (u[i].toList == u[k].toList) = true) : waysTo u i (k + 1) = waysTo u i k := by
  unfold waysTo
  rw [List.getElem?_eq_getElem hi]
  simp only []
  rw [pairP_skip hk h]
theorem flatLe {α β : Type} (f : α → List β) (m : Nat) : ∀ l : List α, (∀ x ∈ l, (f x).length ≤ m) → (l.flatMap f).length ≤ l.length * m
  | [], _ => by simp
  | a :: l, h => by
    rw [List.flatMap_cons, List.length_append, List.length_cons, Nat.succ_mul]
    have h1 := h a (List.mem_cons_self ..)
    have h2 := flatLe f m l fun x hx => h x (List.mem_cons_of_mem _ hx)
    omega
theorem waysTo_le {u : List ByteArray} (hu : u.length ≤ 12) (i k : Nat) : (waysTo u i k).length ≤ 300 := by
  unfold waysTo
  rw [List.length_append, List.length_append, waysA_len (Nat.le_refl _)]
  have h1 := flatLe (fun a => pairP u a u.length) u.length (u.take i) fun x _ => pairP_le u x _
  have h2 : (u.take i).length * u.length ≤ 12 * 12 := Nat.mul_le_mul (by rw [List.length_take]; omega) hu
  have h3 : (match u[i]? with
    | some a => pairP u a k
    | none => []).length ≤ u.length := by
    cases u[i]? with
    | none => simp
    | some a => exact pairP_le u a k
  omega
theorem waysA_mem {u : List ByteArray} {i : Nat} {x : List ByteArray} (h : x ∈ waysA u i) : x.length ≤ 2 ∧ ∀ n ∈ x, n ∈ u := by
  rcases List.mem_cons.1 h with rfl | h
  · simp
  · obtain ⟨a, ha, rfl⟩ := List.mem_map.1 h
    refine ⟨by simp, fun n hn => ?_⟩
    rw [List.mem_singleton.1 hn]
    exact List.mem_of_mem_take ha
theorem pairP_mem {u : List ByteArray} {a : ByteArray} (ha : a ∈ u) {k : Nat} {x : List ByteArray} (h : x ∈ pairP u a k) : x.length ≤ 2 ∧ ∀ n ∈ x, n ∈ u := by
  obtain ⟨b, hb, rfl⟩ := List.mem_map.1 h
  refine ⟨by simp, fun n hn => ?_⟩
  rcases List.mem_cons.1 hn with rfl | hn
  · exact ha
  · rw [List.mem_singleton.1 hn]
    exact List.mem_of_mem_take (List.mem_filter.1 hb).1
theorem waysTo_mem {u : List ByteArray} {i k : Nat} {x : List ByteArray} (h : x ∈ waysTo u i k) : x.length ≤ 2 ∧ ∀ n ∈ x, n ∈ u := by
  unfold waysTo at h
  rcases List.mem_append.1 h with h | h
  · rcases List.mem_append.1 h with h | h
    · exact waysA_mem h
    · obtain ⟨a, ha, hx⟩ := List.mem_flatMap.1 h
      exact pairP_mem (List.mem_of_mem_take ha) hx
  · cases hu : u[i]? with
    | none => rw [hu] at h; simp at h
    | some a =>
      rw [hu] at h
      exact pairP_mem (List.mem_of_getElem? hu) h
/-- The derivations among some ways from a word, with the words that they lead to. -/
noncomputable def goOn (l : List AffD) (s : ByteArray) (ns : List (List ByteArray)) : List (StemD × ByteArray) :=
  ns.flatMap fun n => if (wordV l s n).2 = 0 then [(⟨s, n⟩, (wordV l s n).1)] else []
theorem goOn_hit {l : List AffD} {s : ByteArray} {ns : List (List ByteArray)} {k : Nat} (hk : k < ns.length) (h : (wordV l s ns[k]).2 = 0) : goOn l s (ns.take (k + 1)) = goOn l s (ns.take k) ++ [(⟨s, ns[k]⟩, (wordV l s ns[k]).1)] := by
  unfold goOn; rw [List.take_succ_eq_append_getElem hk, List.flatMap_append]; simp [h]
theorem goOn_skip {l : List AffD} {s : ByteArray} {ns : List (List ByteArray)} {k : Nat} (hk : k < ns.length) (h : ¬ (wordV l s ns[k]).2 = 0) : goOn l s (ns.take (k + 1)) = goOn l s (ns.take k) := by
  unfold goOn; rw [List.take_succ_eq_append_getElem hk, List.flatMap_append]; simp [h]
/-- Those of the first i stems, and of the i-th one those of its first k ways. -/
noncomputable def derTo (g : GraD) (i k : Nat) : List (StemD × ByteArray) := (g.stems.take i).flatMap (fun s => goOn g.affixes s.word (waysL s.uses)) ++ (match g.stems[i]? with
  | some s => goOn g.affixes s.word ((waysL s.uses).take k)
  | none => [])
noncomputable def derL (g : GraD) : List (StemD × ByteArray) := derTo g g.stems.length 0
theorem derTo_zero (g : GraD) : derTo g 0 0 = [] := by
  unfold derTo
  cases g.stems[0]? with
  | none => simp
  | some a => simp [goOn]
theorem derTo_next {g : GraD} {i : Nat} (h : i < g.stems.length) : derTo g (i + 1) 0 = derTo g i (waysL g.stems[i].uses).length := by
  unfold derTo
  rw [List.getElem?_eq_getElem h, List.take_succ_eq_append_getElem h, List.flatMap_append]
  simp only [List.take_length]
  cases g.stems[i + 1]? with
  | none => simp
  | some a => simp [goOn]
theorem derTo_hit {g : GraD} {i k : Nat} (hi : i < g.stems.length) (hk : k < (waysL g.stems[i].uses).length) (h : (wordV g.affixes g.stems[i].word (waysL g.stems[i].uses)[k]).2 = 0) :
    derTo g i (k + 1) = derTo g i k ++ [(⟨g.stems[i].word, (waysL g.stems[i].uses)[k]⟩, (wordV g.affixes g.stems[i].word (waysL g.stems[i].uses)[k]).1)] := by
  unfold derTo
  rw [List.getElem?_eq_getElem hi]
  simp only []
  rw [goOn_hit hk h, List.append_assoc]
theorem derTo_skip {g : GraD} {i k : Nat} (hi : i < g.stems.length) (hk : k < (waysL g.stems[i].uses).length) (h : ¬ (wordV g.affixes g.stems[i].word (waysL g.stems[i].uses)[k]).2 = 0) :
    derTo g i (k + 1) = derTo g i k := by
  unfold derTo
  rw [List.getElem?_eq_getElem hi]
  simp only []
  rw [goOn_skip hk h]
theorem derTo_pre (g : GraD) (i k : Nat) : ∀ d ∈ derTo g i k, d ∈ derL g := by
  intro d hd
  unfold derL derTo
  rw [List.take_length, List.getElem?_eq_none (Nat.le_refl _), List.append_nil]
  unfold derTo at hd
  rcases List.mem_append.1 hd with h | h
  · obtain ⟨s, hs, h2⟩ := List.mem_flatMap.1 h
    exact List.mem_flatMap.2 ⟨s, List.mem_of_mem_take hs, h2⟩
  · cases hg : g.stems[i]? with
    | none => rw [hg] at h; simp at h
    | some s =>
      rw [hg] at h
      refine List.mem_flatMap.2 ⟨s, List.mem_of_getElem? hg, ?_⟩
      unfold goOn at h ⊢
      obtain ⟨n, hn, h2⟩ := List.mem_flatMap.1 h
      exact List.mem_flatMap.2 ⟨n, List.mem_of_mem_take hn, h2⟩
theorem derTo_end {g : GraD} {i k : Nat} (hi : i < g.stems.length) : ∀ d ∈ derTo g i k, d ∈ derTo g (i + 1) 0 := by
  intro d hd
  rw [derTo_next hi]
  unfold derTo at hd ⊢
  rw [List.getElem?_eq_getElem hi] at hd ⊢
  simp only [List.take_length] at hd ⊢
  rcases List.mem_append.1 hd with h | h
  · exact List.mem_append_left _ h
  · refine List.mem_append_right _ ?_
    unfold goOn at h ⊢
    obtain ⟨n, hn, h2⟩ := List.mem_flatMap.1 h
    exact List.mem_flatMap.2 ⟨n, List.mem_of_mem_take hn, h2⟩
theorem goOn_le (l : List AffD) (s : ByteArray) (ns : List (List ByteArray)) : (goOn l s ns).length ≤ ns.length := by
  have := flatLe (fun n => if (wordV l s n).2 = 0 then [((⟨s, n⟩ : StemD), (wordV l s n).1)] else []) 1 ns fun x _ => by split <;> simp
  unfold goOn; omega
theorem Inc.nodup {l : List ByteArray} (h : Inc l) : l.Nodup := List.Pairwise.imp (fun {a b} h e => by rw [e, blIrr] at h; cases h) h
/-- A string into its place. -/
def insS (x : ByteArray) : List ByteArray → List ByteArray
  | [] => [x]
  | y :: r => if Op.bytesLess x.toList y.toList then x :: y :: r else if x = y then y :: r else y :: insS x r
theorem insS_mem (x : ByteArray) : ∀ (l : List ByteArray) (z : ByteArray), z ∈ insS x l ↔ z = x ∨ z ∈ l
  | [], z => by simp [insS]
  | y :: r, z => by
    unfold insS
    split
    · simp
    · split
      · rename_i h; subst h; simp
      · rw [List.mem_cons, insS_mem x r z, List.mem_cons]
        constructor
        · rintro (h | h | h)
          · exact .inr (.inl h)
          · exact .inl h
          · exact .inr (.inr h)
        · rintro (h | h | h)
          · exact .inr (.inl h)
          · exact .inl h
          · exact .inr (.inr h)
theorem insS_inc (x : ByteArray) : ∀ {l : List ByteArray}, Inc l → Inc (insS x l)
  | [], _ => List.pairwise_singleton ..
  | y :: r, h => by
    have h2 := List.pairwise_cons.1 h
    unfold insS
    split
    · rename_i hl
      refine List.pairwise_cons.2 ⟨fun z hz => ?_, h⟩
      rcases List.mem_cons.1 hz with rfl | hz
      · exact hl
      · exact bl_trans _ _ _ hl (h2.1 z hz)
    · split
      · exact h
      · rename_i hl hne
        refine List.pairwise_cons.2 ⟨fun z hz => ?_, insS_inc x h2.2⟩
        rcases (insS_mem x r z).1 hz with rfl | hz
        · rcases bl_tri y.toList z.toList with ⟨h1, -⟩ | ⟨-, h1, -⟩ | ⟨-, -, h3⟩
          · exact h1
          · exact absurd h1 hl
          · exact absurd (ba_inj (by rw [← Lib.toList_data, ← Lib.toList_data]; exact h3)).symm hne
        · exact h2.1 z hz
/-- The different ones of some strings, ascending. -/
def setS : List ByteArray → List ByteArray
  | [] => []
  | x :: r => insS x (setS r)
theorem setS_mem : ∀ (l : List ByteArray) (z : ByteArray), z ∈ setS l ↔ z ∈ l
  | [], z => by simp [setS]
  | x :: r, z => by rw [setS, insS_mem, setS_mem r z, List.mem_cons]
theorem setS_inc : ∀ l : List ByteArray, Inc (setS l)
  | [] => List.Pairwise.nil
  | x :: r => insS_inc x (setS_inc r)
/-- All words that derivations lead to. -/
noncomputable def allW (g : GraD) : List ByteArray := setS ((derL g).map Prod.snd)
/-- What DerivedWords comes to. -/
noncomputable def dwV (g : GraD) : List ByteArray := if graB g then (if (allW g).length ≤ 200 then allW g else []) else []
noncomputable def dwE (g : GraD) : Int := if graB g then (if (allW g).length ≤ 200 then 0 else 5) else 1
/-- What DerivationsOf comes to. -/
noncomputable def dofV (g : GraD) (s : ByteArray) : List StemD := if graB g then (if isLong s then ((derL g).filter fun d => d.2.toList == s.toList).map Prod.fst else []) else []
noncomputable def dofE (g : GraD) (s : ByteArray) : Int := if graB g then (if isLong s then 0 else 7) else 1
/-- How far the reference's list of words has come: not more than one too many. -/
structure WrdTo (ws out : List ByteArray) : Prop where
  inc : Inc out
  sub : ∀ x ∈ out, x ∈ ws
  len : out.length ≤ 201
  all : out.length ≤ 200 → ∀ x ∈ ws, x ∈ out
theorem WrdTo.start : WrdTo [] [] := ⟨List.Pairwise.nil, by simp, by simp, by simp⟩
theorem WrdTo.put {ws out out2 : List ByteArray} {x : ByteArray} (h : WrdTo ws out) (hl : out.length ≤ 200) (h2 : InsTo out x out2) : WrdTo (ws ++ [x]) out2 := by
  refine ⟨h2.inc h.inc, fun y hy => ?_, by have := h2.len; omega, fun h3 y hy => ?_⟩
  · rcases (h2.mem y).1 hy with rfl | hy
    · simp
    · exact List.mem_append_left _ (h.sub y hy)
  · rcases List.mem_append.1 hy with hy | hy
    · exact (h2.mem y).2 (.inr (h.all hl y hy))
    · exact (h2.mem y).2 (.inl (List.mem_singleton.1 hy))
/-- Too many: what else comes is no matter. -/
theorem WrdTo.full {ws ws2 out : List ByteArray} (h : WrdTo ws out) (hl : ¬ out.length ≤ 200) (hs : ∀ x ∈ ws, x ∈ ws2) : WrdTo ws2 out :=
  ⟨h.inc, fun y hy => hs y (h.sub y hy), h.len, fun h3 => absurd h3 hl⟩
theorem nodupLe {α : Type} [DecidableEq α] : ∀ (a b : List α), a.Nodup → (∀ x ∈ a, x ∈ b) → a.length ≤ b.length
  | [], _, _, _ => by simp
  | x :: a, b, hn, h => by
    have hx := h x (List.mem_cons_self ..)
    have hn := List.nodup_cons.1 hn
    have := nodupLe a (b.erase x) hn.2 fun y hy => (List.mem_erase_of_ne (fun e => hn.1 (by subst e; exact hy))).2 (h y (List.mem_cons_of_mem _ hy))
    rw [List.length_erase_of_mem hx] at this
    have h0 := List.length_pos_of_mem hx
    simp only [List.length_cons]; omega
/-- What a valid grammar says of a stem's uses. -/
theorem stem_uses {g : GraD} (h : GraOk g) {i : Nat} (hi : i < g.stems.length) : g.stems[i].uses.length ≤ 12 ∧ (∀ n ∈ g.stems[i].uses, hasB g.affixes n = true) ∧ (∀ j k, (hj : j < g.stems[i].uses.length) → (hk : k < g.stems[i].uses.length) → j ≠ k → (g.stems[i].uses[j].toList == g.stems[i].uses[k].toList) = false) := by
  have hs := h.2.1.1 i hi
  simp only [stemB, Bool.and_eq_true, List.all_eq_true] at hs
  obtain ⟨⟨h1, h2⟩, h3⟩ := hs
  have hinc := (inc_iff _).2 ((incB_iff _).1 h2)
  have hnd := Inc.nodup hinc
  have hmem : ∀ x ∈ g.stems[i].uses, x ∈ g.affixes.map (·.name) := fun x hx => by
    obtain ⟨a, ha, he⟩ := List.any_eq_true.1 (h1 x hx)
    exact List.mem_map.2 ⟨a, ha, by simpa using he⟩
  refine ⟨?_, h1, fun j k hj hk hne => ?_⟩
  · have := nodupLe _ _ hnd hmem
    rw [List.length_map] at this
    have := h.2.2.1; omega
  · rw [beq_eq_false_iff_ne]
    intro e
    have e2 : g.stems[i].uses[j] = g.stems[i].uses[k] := bytes_eq_of (by rw [e]; simp)
    rcases Nat.lt_trichotomy j k with h | h | h
    · exact (List.pairwise_iff_getElem.1 hnd) j k hj hk h e2
    · exact hne h
    · exact (List.pairwise_iff_getElem.1 hnd) k j hk hj h e2.symm
theorem derTo_le {g : GraD} (h : GraOk g) (i k : Nat) : (derTo g i k).length ≤ 9300 := by
  unfold derTo
  rw [List.length_append]
  have key : ∀ s ∈ g.stems, (waysL s.uses).length ≤ 300 := fun s hs => by
    obtain ⟨j, hj, rfl⟩ := List.getElem_of_mem hs
    exact waysTo_le (stem_uses h hj).1 _ _
  have h1 := flatLe (fun s => goOn g.affixes s.word (waysL s.uses)) 300 (g.stems.take i) fun s hs => Nat.le_trans (goOn_le _ _ _) (key s (List.mem_of_mem_take hs))
  have h2 : (g.stems.take i).length ≤ 30 := by rw [List.length_take]; have := h.2.2.2; omega
  have h3 : (match g.stems[i]? with
    | some s => goOn g.affixes s.word ((waysL s.uses).take k)
    | none => []).length ≤ 300 := by
    cases hg : g.stems[i]? with
    | none => simp
    | some s =>
      have h4 := goOn_le g.affixes s.word ((waysL s.uses).take k)
      have h5 := key s (List.mem_of_getElem? hg)
      rw [List.length_take] at h4
      simp only []
      omega
  omega
theorem WrdTo.done {ws out : List ByteArray} (h : WrdTo ws out) : (out.length ≤ 200 ∧ out = setS ws) ∨ (¬ out.length ≤ 200 ∧ ¬ (setS ws).length ≤ 200) := by
  by_cases hl : out.length ≤ 200
  · exact .inl ⟨hl, inc_ext h.inc (setS_inc ws) fun x => by rw [setS_mem]; exact ⟨h.sub x, h.all hl x⟩⟩
  · have := nodupLe out (setS ws) h.inc.nodup fun x hx => (setS_mem ws x).2 (h.sub x hx)
    exact .inr ⟨hl, by omega⟩
theorem dw_no {g : GraD} (h : graB g = false) : dwV g = [] ∧ dwE g = 1 := by simp [dwV, dwE, h]
theorem dw_full {g : GraD} (h : graB g = true) (h2 : ¬ (allW g).length ≤ 200) : dwV g = [] ∧ dwE g = 5 := by simp [dwV, dwE, h, h2]
theorem dw_yes {g : GraD} (h : graB g = true) (h2 : (allW g).length ≤ 200) : dwV g = allW g ∧ dwE g = 0 := by simp [dwV, dwE, h, h2]
theorem dof_no {g : GraD} {s : ByteArray} (h : graB g = false) : dofV g s = [] ∧ dofE g s = 1 := by simp [dofV, dofE, h]
theorem dof_bad {g : GraD} {s : ByteArray} (h : graB g = true) (h2 : isLong s = false) : dofV g s = [] ∧ dofE g s = 7 := by simp [dofV, dofE, h, h2]
theorem dof_yes {g : GraD} {s : ByteArray} (h : graB g = true) (h2 : isLong s = true) : dofV g s = ((derL g).filter fun d => d.2.toList == s.toList).map Prod.fst ∧ dofE g s = 0 := by simp [dofV, dofE, h, h2]
end Go.Proofs.YtgefgdkejenhnaaDoor
