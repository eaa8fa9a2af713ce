/- DerivationsOf: what the list of derivations looks like in memory; one more is appended. Condition: Go's own bound on the bytes of a slice. -/
import Derived.Test.YtgefgdkejenhnaaDoorDvM
import Derived.Test.YtgefgdkejenhnaaDoorMs
set_option linter.unusedSimpArgs false
namespace Go.Proofs.YtgefgdkejenhnaaDoor
open Go.RowKit
theorem infoDerS : (Tryd.prog.info? 41).map (fun i => (i.zero, i.size, i.bytes)) = some (some (.agg #[.string ⟨#[]⟩, .slice none 0 0]), 2, 40) := by kernel_rfl
def derV (d : StemD × Nat) : List Value := [.string d.1.word, .slice (some ⟨d.2, 0, none⟩) d.1.uses.length d.1.uses.length]
def derRow (L : List (StemD × Nat)) : List Value := L.flatMap derV
theorem derRow_len (L : List (StemD × Nat)) : (derRow L).length = L.length * 2 := flat_len derV 2 (fun _ => rfl) L
theorem derRow_snoc (L : List (StemD × Nat)) (d : StemD × Nat) : derRow (L ++ [d]) = derRow L ++ derV d := by simp [derRow, List.flatMap_append]
/-- The list, each derivation's affixes in a block of their own. -/
structure DerL (w : World) (B : Nat) (v : Value) (L : List (StemD × Nat)) : Prop where
  own : w.ownsRow B 41 2 v L.length (derRow L)
  blk : ∀ d ∈ L, w.heap[d.2]? = some (.cells (d.1.uses.map Value.string).toArray 9 (0, 0))
  inj : L.Pairwise fun a b => a.2 ≠ b.2
  apart : ∀ k, v.ownBlock = some k → ∀ d ∈ L, d.2 ≠ k
theorem DerL.keep {w w' : World} {B v L} (h : DerL w B v L) (hk : ∀ k, k < w.heap.size → (v.ownBlock = some k ∨ ∃ d ∈ L, d.2 = k) → w'.heap[k]? = w.heap[k]?) : DerL w' B v L := by
  obtain ⟨⟨h1, h2⟩, h3, h4, h5⟩ := h
  refine ⟨⟨h1, ?_⟩, fun d hd => (hk _ (Array.getElem?_eq_some_iff.1 (h3 d hd)).1 (.inr ⟨d, hd, rfl⟩)).trans (h3 d hd), h4, h5⟩
  rcases h2 with h2 | ⟨g, cap, cur, hv, hb, hg, rest⟩
  · exact .inl h2
  · exact .inr ⟨g, cap, cur, hv, hb, (hk g (Array.getElem?_eq_some_iff.1 hg).1 (.inl (by rw [hv]; rfl))).trans hg, rest⟩
theorem DerL.below {w w' : World} {B v L} (h : DerL w B v L) (hb : Below w.heap.size w w') : DerL w' B v L := h.keep fun k hk _ => hb.block k hk
theorem DerL.lt {w : World} {B v L} (h : DerL w B v L) : ∀ d ∈ L, d.2 < w.heap.size := fun d hd => (Array.getElem?_eq_some_iff.1 (h.blk d hd)).1
theorem DerL.made (w : World) (B : Nat) (h : B ≤ w.heap.size) : DerL (w.alloc (.cells #[] 41)) B (.slice (some ⟨w.heap.size, 0, none⟩) 0 0) [] :=
  ⟨World.ownsRow_made w #[] 0 h (by unfold maxLen; omega) (by simp), by simp, List.Pairwise.nil, by simp⟩
theorem DerL.shape {w : World} {B v L} (h : DerL w B v L) : ∃ a cap, v = .slice a L.length cap ∧ L.length ≤ cap ∧ cap ≤ maxLen := by
  rcases h.own.2 with ⟨hv, h0⟩ | ⟨g, cap, cur, hv, _, _, h1, h2, _⟩
  · exact ⟨none, 0, by rw [hv, h0], by omega, by unfold maxLen; omega⟩
  · exact ⟨_, cap, hv, h1, h2⟩
theorem zip_der : ∀ L : List (StemD × Nat), ((L.map Prod.fst).zip (L.map fun d => Value.slice (some ⟨d.2, 0, none⟩) d.1.uses.length d.1.uses.length)).flatMap stemL = derRow L
  | [] => rfl
  | d :: L => by
    have ih := zip_der L
    simp only [List.map_cons, List.zip_cons_cons, List.flatMap_cons, derRow] at ih ⊢
    rw [ih]; rfl
def qOf (L : List (StemD × Nat)) (j : Nat) : Nat := (L[j]?.map Prod.snd).getD 0
theorem qOf_at {L : List (StemD × Nat)} {j : Nat} (h : j < L.length) : qOf L j = L[j].2 := by simp [qOf, h]
def usOf (L : List (StemD × Nat)) : List Value := L.map fun d => .slice (some ⟨d.2, 0, none⟩) d.1.uses.length d.1.uses.length
/-- As stems. -/
theorem DerL.stx {w : World} {B g cap : Nat} {L : List (StemD × Nat)} (h : DerL w B (.slice (some ⟨g, 0, none⟩) L.length cap) L) (hw : ∀ d ∈ L, d.1.word.size ≤ maxLen ∧ d.1.uses.length ≤ maxLen ∧ ∀ s ∈ d.1.uses, s.size ≤ maxLen) :
    StX 41 w g (qOf L) (usOf L) (.slice (some ⟨g, 0, none⟩) L.length cap) (L.map Prod.fst) := by
  have hlen : (L.map Prod.fst).length = L.length := by simp
  refine ⟨by simp [usOf], ?_, fun x hx => ?_, fun j hj hj' => ?_, fun j hj => ?_, fun i j hi hj e => ?_⟩
  · rw [hlen]
    have hs := own_SlW h.own
    rw [show ((L.map Prod.fst).zip (usOf L)).flatMap stemL = derRow L from zip_der L]
    obtain ⟨h1, a, c, e1, h2, h3, h4⟩ := hs
    refine ⟨h1, a, c, e1, h2, h3, ?_⟩
    rcases h4 with h4 | ⟨g2, off, cur, e2, h6, h7, h8⟩
    · exact .inl h4
    · have : g2 = g := by rw [e2] at e1; injection e1 with e3; injection e3 with e3; injection e3 with e3; exact e3.symm
      subst this
      exact .inr ⟨g2, off, cur, e2, Nat.le_refl _, Nat.lt_succ_self _, h8⟩
  · obtain ⟨d, hd, rfl⟩ := List.mem_map.1 hx
    exact (hw d hd).1
  · have hj2 : j < L.length := by simpa using hj
    have hd := List.getElem_mem hj2
    obtain ⟨-, h2, h3⟩ := hw _ hd
    have hb := h.blk _ hd
    have e1 : (usOf L)[j] = .slice (some ⟨L[j].2, 0, none⟩) L[j].1.uses.length L[j].1.uses.length := by simp [usOf]
    have e2 : (L.map Prod.fst)[j].uses = L[j].1.uses := by simp
    rw [e1, e2, qOf_at hj2]
    refine ⟨⟨by simp, some ⟨L[j].2, 0, none⟩, L[j].1.uses.length, rfl, Nat.le_refl _, h2, .inr ⟨L[j].2, 0, _, rfl, Nat.le_refl _, by omega, hb, ?_, ?_⟩⟩, h3⟩
    · simp
    · simp; exact List.take_of_length_le (by simp)
  · have hj2 : j < L.length := by simpa using hj
    rw [qOf_at hj2]
    exact h.apart g rfl _ (List.getElem_mem hj2)
  · have hi2 : i < L.length := by simpa using hi
    have hj2 : j < L.length := by simpa using hj
    rw [qOf_at hi2, qOf_at hj2] at e
    have key : ∀ a b, (ha : a < L.length) → (hb : b < L.length) → a < b → L[a].2 ≠ L[b].2 := fun a b ha hb hab => (List.pairwise_iff_getElem.1 h.inj) a b ha hb hab
    rcases Nat.lt_trichotomy i j with h1 | h1 | h1
    · exact absurd e (key i j hi2 hj2 h1)
    · exact h1
    · exact absurd e.symm (key j i hj2 hi2 h1)
section
attribute [local irreducible] Calls
/-- append(list, d): one arm of a walk; the derivation's two cells lie in a new block just ahead. -/
theorem app_der {ops : Array Oper} {rest : List Oper} {o : Oper} {a : Act} {Q : Exit → Act → World → Prop} {w : World} (hgd : o.guard = none) (s x : Operand)
    (ho : o.op = .call { callee := .builtin .append, args := #[s, x], argTypes := #[45, 45] })
    (B : Nat) (v : Value) (L : List (StemD × Nat)) (hs : a.eval s = v) (hw : DerL w B v L) (d : StemD) (b : Nat)
    (hb : w.heap[b]? = some (.cells (d.uses.map Value.string).toArray 9 (0, 0))) (hbL : ∀ y ∈ L, y.2 ≠ b) (hbv : v.ownBlock ≠ some b) (n : Nat) (hn : n = d.uses.length)
    (hx : a.eval x = .slice (some ⟨w.heap.size, 0, none⟩) 1 1)
    (hl : L.length ≤ 100000) (hB : B ≤ w.heap.size)
    (h : ∀ g cap w', DerL w' B (.slice (some ⟨g, 0, none⟩) (L.length + 1) cap) (L ++ [(d, b)]) → Below B w w' → w.grownBy w' v.ownBlock → (some g = v.ownBlock ∨ w.heap.size ≤ g) → wpList Tryd.prog ops Q rest (a.put o.dst (.slice (some ⟨g, 0, none⟩) (L.length + 1) cap)) w') :
    wpList Tryd.prog ops Q (o :: rest) a (w.alloc (.cells #[.string d.word, .slice (some ⟨b, 0, none⟩) n n] 41)) := by
  subst hn
  obtain ⟨i, hi, hz0, hz1, hz2⟩ := info_parts infoDerS
  refine wpList_append_own_at _ hgd s x 45 ho B 41 i (.agg #[.string ⟨#[]⟩, .slice none 0 0]) 2 40 Tryd.underlying45 hi hz0 hz1 hz2 rfl (by decide) v L.length (derRow L) hs (World.ownsRow.alloc hw.own _) ⟨w.heap.size, 0, none⟩ 1 1 (derV (d, b)) hx rfl ?_ ?_ (by unfold maxLen; omega) (by omega) (by simp; omega) ?_
  · intro j u hj
    rw [add_pl2]
    simp only [World.cell?, heap_alloc_new, Nat.zero_add]
    simpa [derV] using hj
  · intro u hu
    simp only [derV, List.mem_cons, List.not_mem_nil, or_false] at hu
    rcases hu with rfl | rfl <;> rfl
  · intro v' w' hown' hgrow _ hloc
    obtain ⟨g, cap, rfl⟩ : ∃ g cap, v' = .slice (some ⟨g, 0, none⟩) (L.length + 1) cap := by
      rcases hown'.2 with ⟨_, h0⟩ | ⟨g, cap, cur, hv, _⟩
      · omega
      · exact ⟨g, cap, hv⟩
    have hlow : ∀ k, v.ownBlock = some k → B ≤ k ∧ k < w.heap.size := World.ownsRow.lt hw.own
    have hg2 : w.grownBy w' v.ownBlock := ⟨hgrow.os, hgrow.tape, hgrow.output, Nat.le_trans (by simp) hgrow.size, fun k hk hne => (hgrow.block k (by simp; omega) hne).trans (Below.heap_alloc w _ k hk)⟩
    have hbel : Below B w w' := (Below.refl B w).grown hg2 hB (fun k hk => (hlow k hk).1)
    have hgl : some g = v.ownBlock ∨ w.heap.size ≤ g := by
      rcases hloc with h1 | h1
      · exact .inl h1
      · right
        have := Option.some.inj h1
        simp at this; omega
    have hblt := (Array.getElem?_eq_some_iff.1 hb).1
    refine h g cap w' ⟨?_, fun y hy => ?_, ?_, fun k hk y hy => ?_⟩ hbel hg2 hgl
    · rw [List.length_append, derRow_snoc]
      exact hown'
    · rcases List.mem_append.1 hy with hy | hy
      · exact (hg2.block _ (hw.lt y hy) (fun e => hw.apart _ e.symm y hy rfl)).trans (hw.blk y hy)
      · rw [List.mem_singleton.1 hy]
        exact (hg2.block b hblt (Ne.symm hbv)).trans hb
    · refine List.pairwise_append.2 ⟨hw.inj, List.pairwise_singleton .., fun y hy z hz => ?_⟩
      rw [List.mem_singleton.1 hz]
      exact hbL y hy
    · obtain rfl : g = k := Option.some.inj hk
      rcases List.mem_append.1 hy with hy | hy
      · rcases hgl with h1 | h1
        · exact hw.apart _ h1.symm y hy
        · have := hw.lt y hy; omega
      · rw [List.mem_singleton.1 hy]
        rcases hgl with h1 | h1
        · intro e
          subst e
          exact hbv h1.symm
        · intro e
          have : b = g := e
          omega
/-- What stands behind such an append, whatever the world looked like just ahead of it. -/
theorem der_grow {w W w' : World} {B v L} (hw : DerL w B v L) (hbW : Below w.heap.size w W) (hB : B ≤ w.heap.size) (d : StemD) (b : Nat) (hb : w.heap[b]? = some (.cells (d.uses.map Value.string).toArray 9 (0, 0))) (hbL : ∀ y ∈ L, y.2 ≠ b) (hbv : v.ownBlock ≠ some b) (g cap : Nat)
    (hown' : w'.ownsRow B 41 2 (.slice (some ⟨g, 0, none⟩) (L.length + 1) cap) (L.length + 1) (derRow L ++ derV (d, b))) (hgrow : W.grownBy w' v.ownBlock) (hloc : v.ownBlock = some g ∨ g = W.heap.size) :
    DerL w' B (.slice (some ⟨g, 0, none⟩) (L.length + 1) cap) (L ++ [(d, b)]) ∧ Below B w w' ∧ w.grownBy w' v.ownBlock ∧ (some g = v.ownBlock ∨ w.heap.size ≤ g) := by
  have hlow : ∀ k, v.ownBlock = some k → B ≤ k ∧ k < w.heap.size := World.ownsRow.lt hw.own
  have hg2 : w.grownBy w' v.ownBlock := ⟨hgrow.os.trans hbW.os, hgrow.tape.trans hbW.tape, hgrow.output.trans hbW.output, Nat.le_trans hbW.size hgrow.size, fun k hk hne => (hgrow.block k (Nat.lt_of_lt_of_le hk hbW.size) hne).trans (hbW.block k hk)⟩
  have hbel : Below B w w' := (Below.refl B w).grown hg2 hB (fun k hk => (hlow k hk).1)
  have hgl : some g = v.ownBlock ∨ w.heap.size ≤ g := by
    rcases hloc with h1 | h1
    · exact .inl h1.symm
    · right; rw [h1]; exact hbW.size
  have hblt := (Array.getElem?_eq_some_iff.1 hb).1
  refine ⟨⟨?_, fun y hy => ?_, ?_, fun k hk y hy => ?_⟩, hbel, hg2, hgl⟩
  · rw [List.length_append, derRow_snoc]
    exact hown'
  · rcases List.mem_append.1 hy with hy | hy
    · exact (hg2.block _ (hw.lt y hy) (fun e => hw.apart _ e.symm y hy rfl)).trans (hw.blk y hy)
    · rw [List.mem_singleton.1 hy]
      exact (hg2.block b hblt (Ne.symm hbv)).trans hb
  · refine List.pairwise_append.2 ⟨hw.inj, List.pairwise_singleton .., fun y hy z hz => ?_⟩
    rw [List.mem_singleton.1 hz]
    exact hbL y hy
  · obtain rfl : g = k := Option.some.inj hk
    rcases List.mem_append.1 hy with hy | hy
    · rcases hgl with h1 | h1
      · exact hw.apart _ h1.symm y hy
      · have := hw.lt y hy; omega
    · rw [List.mem_singleton.1 hy]
      rcases hgl with h1 | h1
      · intro e
        have e : b = g := e
        subst e
        exact hbv h1.symm
      · intro e
        have : b = g := e
        omega
/-- append(list, d) at a step of a region that draws its order. -/
theorem step_der {ops : Array Oper} {o : Oper} {a : Act} {K : Act → World → Prop} {Q : Exit → Act → World → Prop} {E : Prop} {w W : World} (hgd : o.guard = none) (s x : Operand)
    (ho : o.op = .call { callee := .builtin .append, args := #[s, x], argTypes := #[45, 45] })
    (B : Nat) (v : Value) (L : List (StemD × Nat)) (hs : a.eval s = v) (hw : DerL w B v L) (hbW : Below w.heap.size w W) (d : StemD) (b : Nat)
    (hb : w.heap[b]? = some (.cells (d.uses.map Value.string).toArray 9 (0, 0))) (hbL : ∀ y ∈ L, y.2 ≠ b) (hbv : v.ownBlock ≠ some b) (n : Nat) (hn : n = d.uses.length)
    (b1 : Nat) (hx : a.eval x = .slice (some ⟨b1, 0, none⟩) 1 1) (hc0 : W.cell? ⟨b1, 0, none⟩ = some (.string d.word)) (hc1 : W.cell? ⟨b1, 1, none⟩ = some (.slice (some ⟨b, 0, none⟩) n n))
    (hl : L.length ≤ 100000) (hB : B ≤ w.heap.size)
    (h : ∀ g cap w', DerL w' B (.slice (some ⟨g, 0, none⟩) (L.length + 1) cap) (L ++ [(d, b)]) → Below B w w' → w.grownBy w' v.ownBlock → (some g = v.ownBlock ∨ w.heap.size ≤ g) → K (a.put o.dst (.slice (some ⟨g, 0, none⟩) (L.length + 1) cap)) w') :
    if Region.wanted o (yielded ops a.tmps) = true then Oper.wp Tryd.prog o a W K Q else E := by
  subst hn
  obtain ⟨i, hi, hz0, hz1, hz2⟩ := info_parts infoDerS
  refine step_append_lies _ hgd s x 45 ho B 41 i (.agg #[.string ⟨#[]⟩, .slice none 0 0]) 2 40 Tryd.underlying45 hi hz0 hz1 hz2 rfl (by decide) v L.length (derRow L) hs (hw.below hbW).own ⟨b1, 0, none⟩ 1 1 (derV (d, b)) hx rfl ?_ ?_ (by decide) (by unfold maxLen; omega) (by omega) (Nat.le_trans hB hbW.size) _ rfl ?_
  · intro j u hj
    rw [add_pl2, Nat.zero_add]
    match j, hj with
    | 0, hj => simp [derV] at hj; subst hj; exact hc0
    | 1, hj => simp [derV] at hj; subst hj; exact hc1
    | j + 2, hj => simp [derV] at hj
  · intro u hu
    simp only [derV, List.mem_cons, List.not_mem_nil, or_false] at hu
    rcases hu with rfl | rfl <;> rfl
  · intro g cap w' hown' hgrow hloc _
    obtain ⟨h1, h2, h3, h4⟩ := der_grow hw hbW hB d b hb hbL hbv g cap hown' hgrow hloc
    exact h g cap w' h1 h2 h3 h4
end
end Go.Proofs.YtgefgdkejenhnaaDoor
