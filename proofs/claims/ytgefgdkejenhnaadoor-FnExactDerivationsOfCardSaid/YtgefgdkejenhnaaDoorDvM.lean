/- Lists of lists of strings, each list in a block of its own; one more is appended. Condition: Go's own bound on the bytes of a slice. -/
import Derived.Test.YtgefgdkejenhnaaDoorDvL
import Derived.Test.YtgefgdkejenhnaaDoorAt
import Derived.Deep.AppendLies
namespace Go.Proofs.YtgefgdkejenhnaaDoor
open Go.RowKit
theorem infoSls : (Tryd.prog.info? 35).map (fun i => (i.zero, i.size, i.bytes)) = some (some (.slice none 0 0), 1, 24) := by kernel_rfl
/-- The lists, list j in block q j. -/
structure InW (w : World) (B : Nat) (q : Nat → Nat) (ns : List (List ByteArray)) : Prop where
  blk : ∀ j (h : j < ns.length), w.heap[q j]? = some (.cells (ns[j].map Value.string).toArray 9 (0, 0))
  low : ∀ j, j < ns.length → B ≤ q j
  inj : ∀ i j, i < ns.length → j < ns.length → q i = q j → i = j
def rowV (q : Nat → Nat) (ns : List (List ByteArray)) : List Value := ns.mapIdx fun j n => .slice (some ⟨q j, 0, none⟩) n.length n.length
theorem rowV_len (q : Nat → Nat) (ns : List (List ByteArray)) : (rowV q ns).length = ns.length := by simp [rowV]
theorem rowV_at {q : Nat → Nat} {ns : List (List ByteArray)} {j : Nat} (h : j < ns.length) : (rowV q ns)[j]? = some (.slice (some ⟨q j, 0, none⟩) ns[j].length ns[j].length) := by simp [rowV, h]
def addQ (q : Nat → Nat) (m b : Nat) : Nat → Nat := fun j => if j = m then b else q j
theorem rowV_snoc (q : Nat → Nat) (ns : List (List ByteArray)) (n : List ByteArray) (b : Nat) : rowV (addQ q ns.length b) (ns ++ [n]) = rowV q ns ++ [.slice (some ⟨b, 0, none⟩) n.length n.length] := by
  unfold rowV
  rw [List.mapIdx_append]
  congr 1
  · refine List.ext_getElem (by simp) fun i h1 h2 => ?_
    have : i < ns.length := by simpa using h1
    simp [addQ, show i ≠ ns.length by omega]
  · simp [addQ]
theorem InW.lt {w : World} {B q ns} (h : InW w B q ns) {j : Nat} (hj : j < ns.length) : q j < w.heap.size := (Array.getElem?_eq_some_iff.1 (h.blk j hj)).1
theorem InW.keep {w w' : World} {B q ns} (h : InW w B q ns) (hk : ∀ j, j < ns.length → w'.heap[q j]? = w.heap[q j]?) : InW w' B q ns :=
  ⟨fun j hj => (hk j hj).trans (h.blk j hj), h.low, h.inj⟩
theorem InW.below {w w' : World} {B q ns} (h : InW w B q ns) (hb : Below w.heap.size w w') : InW w' B q ns := h.keep fun _ hj => hb.block _ (h.lt hj)
theorem InW.nil (w : World) (B : Nat) (q : Nat → Nat) : InW w B q [] := ⟨fun j h => by simp at h, fun j h => by simp at h, fun i j h => by simp at h⟩
/-- One more, in block b. -/
theorem InW.snoc {w w' : World} {B q ns} (h : InW w B q ns) (n : List ByteArray) (b : Nat) (hb : w'.heap[b]? = some (.cells (n.map Value.string).toArray 9 (0, 0))) (hB : B ≤ b) (hn : w.heap.size ≤ b) (hk : ∀ j, j < ns.length → w'.heap[q j]? = w.heap[q j]?) : InW w' B (addQ q ns.length b) (ns ++ [n]) := by
  refine ⟨fun j hj => ?_, fun j hj => ?_, fun i j hi hj e => ?_⟩
  · by_cases e : j = ns.length
    · subst e; simp [addQ, hb]
    · have hj2 : j < ns.length := by simp at hj; omega
      rw [List.getElem_append_left hj2]
      simp only [addQ, e, if_false]
      exact (hk j hj2).trans (h.blk j hj2)
  · by_cases e : j = ns.length
    · simp [addQ, e, hB]
    · have hj2 : j < ns.length := by simp at hj; omega
      simp only [addQ, e, if_false]
      exact h.low j hj2
  · simp only [List.length_append, List.length_singleton] at hi hj
    by_cases ei : i = ns.length <;> by_cases ej : j = ns.length
    · omega
    · have := h.lt (show j < ns.length by omega)
      simp only [addQ, ei, ej, if_true, if_false] at e
      omega
    · have := h.lt (show i < ns.length by omega)
      simp only [addQ, ei, ej, if_true, if_false] at e
      omega
    · simp only [addQ, ei, ej, if_false] at e
      exact h.inj i j (by omega) (by omega) e
/-- A slice of such lists, of the call's own. -/
structure WaysW (w : World) (B : Nat) (v : Value) (q : Nat → Nat) (ns : List (List ByteArray)) : Prop where
  own : w.ownsRow B 35 1 v ns.length (rowV q ns)
  inn : InW w B q ns
  apart : ∀ k, v.ownBlock = some k → ∀ j, j < ns.length → q j ≠ k
theorem WaysW.below {w w' : World} {B v q ns} (h : WaysW w B v q ns) (hb : Below w.heap.size w w') : WaysW w' B v q ns :=
  ⟨World.ownsRow.kept h.own ⟨hb.os, hb.tape, hb.output, hb.size, fun k hk _ => hb.block k hk⟩ (by cases v.ownBlock <;> simp) (row := none), h.inn.below hb, h.apart⟩
theorem WaysW.keep {w w' : World} {B v q ns} (h : WaysW w B v q ns) (hk : ∀ k, k < w.heap.size → (v.ownBlock = some k ∨ ∃ j, j < ns.length ∧ q j = k) → w'.heap[k]? = w.heap[k]?) : WaysW w' B v q ns := by
  obtain ⟨⟨h1, h2⟩, h3, h4⟩ := h
  refine ⟨⟨h1, ?_⟩, h3.keep fun j hj => hk _ (h3.lt hj) (.inr ⟨j, hj, rfl⟩), h4⟩
  rcases h2 with h2 | ⟨g, cap, cur, hv, hb, hg, rest⟩
  · exact .inl h2
  · exact .inr ⟨g, cap, cur, hv, hb, (hk g (Array.getElem?_eq_some_iff.1 hg).1 (.inl (by rw [hv]; rfl))).trans hg, rest⟩
theorem WaysW.shape {w : World} {B v q ns} (h : WaysW w B v q ns) : ∃ a cap, v = .slice a ns.length cap ∧ ns.length ≤ cap ∧ cap ≤ maxLen := by
  rcases h.own.2 with ⟨hv, h0⟩ | ⟨g, cap, cur, hv, _, _, h1, h2, _⟩
  · exact ⟨none, 0, by rw [hv, h0], by omega, by unfold maxLen; omega⟩
  · exact ⟨_, cap, hv, h1, h2⟩
theorem add_pl2 (b off i : Nat) : (⟨b, off, none⟩ : Addr).add i = ⟨b, off + i, none⟩ := by unfold Addr.add; split <;> simp_all
/-- The cell of list j. -/
theorem WaysW.cell {w : World} {B a n cap q ns} (h : WaysW w B (.slice a n cap) q ns) {j : Nat} (hj : j < ns.length) : ∃ g, a = some ⟨g, 0, none⟩ ∧ w.cell? ⟨g, j, none⟩ = some (.slice (some ⟨q j, 0, none⟩) ns[j].length ns[j].length) := by
  rcases h.own.2 with ⟨hv, h0⟩ | ⟨g, c2, cur, hv, hb, hg, rest⟩
  · omega
  · injection hv with e1 e2 e3
    refine ⟨g, e1, ?_⟩
    have := World.ownsRow.cells h.own (g := g) (by rw [e1]; rfl) j _ (rowV_at hj)
    rwa [add_pl2, Nat.zero_add] at this
theorem InW.strs {w : World} {B q ns} (h : InW w B q ns) {j : Nat} (hj : j < ns.length) (hl : ns[j].length ≤ maxLen) (hs : ∀ s ∈ ns[j], s.size ≤ maxLen) : StrsW w (q j) (q j + 1) (.slice (some ⟨q j, 0, none⟩) ns[j].length ns[j].length) ns[j] := by
  have hb := h.blk j hj
  refine ⟨⟨by simp, some ⟨q j, 0, none⟩, ns[j].length, rfl, Nat.le_refl _, hl, .inr ⟨q j, 0, _, rfl, Nat.le_refl _, by omega, hb, ?_, ?_⟩⟩, hs⟩
  · simp
  · simp; exact List.take_of_length_le (by simp)
section
attribute [local irreducible] Calls
/-- append(out, []string{..}): one arm of a walk. -/
theorem app_way {ops : Array Oper} {rest : List Oper} {o : Oper} {a : Act} {Q : Exit → Act → World → Prop} {w : World} (hgd : o.guard = none) (s x : Operand)
    (ho : o.op = .call { callee := .builtin .append, args := #[s, x], argTypes := #[80, 80] })
    (B : Nat) (v : Value) (q : Nat → Nat) (ns : List (List ByteArray)) (hs : a.eval s = v) (hw : WaysW w B v q ns) (n : List ByteArray) (us : Array Value) (hus : us = (n.map Value.string).toArray) (m : Nat) (hm : m = n.length)
    (hx : a.eval x = .slice (some ⟨w.heap.size + 1, 0, none⟩) 1 1)
    (hn : ns.length ≤ 1000) (hB : B ≤ w.heap.size)
    (h : ∀ g cap q' w', WaysW w' B (.slice (some ⟨g, 0, none⟩) (ns.length + 1) cap) q' (ns ++ [n]) → Below B w w' → wpList Tryd.prog ops Q rest (a.put o.dst (.slice (some ⟨g, 0, none⟩) (ns.length + 1) cap)) w') :
    wpList Tryd.prog ops Q (o :: rest) a ((w.alloc (.cells us 9)).alloc (.cells #[.slice (some ⟨w.heap.size, 0, none⟩) m m] 35)) := by
  subst hus hm
  obtain ⟨i, hi, hz0, hz1, hz2⟩ := info_parts infoSls
  have hsz1 : (w.alloc (.cells (n.map Value.string).toArray 9)).heap.size = w.heap.size + 1 := by simp
  refine wpList_append_own_at _ hgd s x 80 ho B 35 i (.slice none 0 0) 1 24 Tryd.underlying80 hi hz0 hz1 hz2 rfl (by decide) v ns.length (rowV q ns) hs (World.ownsRow.alloc (World.ownsRow.alloc hw.own _) _) ⟨w.heap.size + 1, 0, none⟩ 1 1 [.slice (some ⟨w.heap.size, 0, none⟩) n.length n.length] hx rfl ?_ ?_ (by unfold maxLen; omega) (by omega) (by simp; omega) ?_
  · have := cell_one_new (w.alloc (.cells (n.map Value.string).toArray 9)) (.slice (some ⟨w.heap.size, 0, none⟩) n.length n.length) 35
    rw [hsz1] at this
    exact this
  · intro u hu; simp at hu; subst hu; rfl
  · intro v' w' hown' hgrow _ hloc
    obtain ⟨g, cap, rfl⟩ : ∃ g cap, v' = .slice (some ⟨g, 0, none⟩) (ns.length + 1) cap := by
      rcases hown'.2 with ⟨_, h0⟩ | ⟨g, cap, cur, hv, _⟩
      · omega
      · exact ⟨g, cap, hv⟩
    have hlow : ∀ k, v.ownBlock = some k → B ≤ k ∧ k < w.heap.size := World.ownsRow.lt hw.own
    have hold : ∀ k, k < w.heap.size → v.ownBlock ≠ some k → w'.heap[k]? = w.heap[k]? := fun k hk hne => by
      rw [hgrow.block k (by simp; omega) (Ne.symm hne), Below.heap_alloc _ _ k (by rw [hsz1]; omega), Below.heap_alloc _ _ k hk]
    have hbel : Below B w w' := ⟨hgrow.os, hgrow.tape, hgrow.output, by have := hgrow.size; simp at this; omega, fun k hk => hold k (by omega) fun e => by have := (hlow k e).1; omega⟩
    have hnew : w'.heap[w.heap.size]? = some (.cells (n.map Value.string).toArray 9 (0, 0)) := by
      rw [hgrow.block _ (by simp; omega) (fun e => by have := (hlow _ e.symm).2; omega), Below.heap_alloc _ _ _ (by rw [hsz1]; omega)]
      exact heap_alloc_new w _
    refine h g cap (addQ q ns.length w.heap.size) w' ⟨?_, hw.inn.snoc n w.heap.size hnew hB (Nat.le_refl _) fun j hj => hold _ (hw.inn.lt hj) fun e => hw.apart _ e j hj rfl, fun k hk j hj => ?_⟩ hbel
    · rw [List.length_append, rowV_snoc]
      exact hown'
    · obtain rfl : g = k := Option.some.inj hk
      simp only [List.length_append, List.length_singleton] at hj
      rcases hloc with h1 | h1
      · have h1 : v.ownBlock = some g := h1.symm
        by_cases ej : j = ns.length
        · simp only [addQ, ej, if_true]
          have := (hlow _ h1).2; omega
        · simp only [addQ, ej, if_false]
          exact hw.apart _ h1 j (by omega)
      · have h1 : g = w.heap.size + 2 := by have := Option.some.inj h1; simpa using this
        by_cases ej : j = ns.length
        · simp only [addQ, ej, if_true]; omega
        · simp only [addQ, ej, if_false]
          have := hw.inn.lt (show j < ns.length by omega); omega
/-- What stands behind such an append, whatever the world looked like just ahead of it. -/
theorem way_grow {w W w' : World} {B v q ns} (hw : WaysW w B v q ns) (hbW : Below w.heap.size w W) (n : List ByteArray) (b1 : Nat) (hb1 : W.heap[b1]? = some (.cells (n.map Value.string).toArray 9 (0, 0))) (hlow1 : w.heap.size ≤ b1) (hB : B ≤ w.heap.size) (g cap : Nat)
    (hown' : w'.ownsRow B 35 1 (.slice (some ⟨g, 0, none⟩) (ns.length + 1) cap) (ns.length + 1) (rowV q ns ++ [.slice (some ⟨b1, 0, none⟩) n.length n.length])) (hgrow : W.grownBy w' v.ownBlock) (hloc : v.ownBlock = some g ∨ g = W.heap.size) :
    WaysW w' B (.slice (some ⟨g, 0, none⟩) (ns.length + 1) cap) (addQ q ns.length b1) (ns ++ [n]) ∧ Below B w w' := by
  have hb1lt : b1 < W.heap.size := (Array.getElem?_eq_some_iff.1 hb1).1
  have hlow : ∀ k, v.ownBlock = some k → B ≤ k ∧ k < w.heap.size := World.ownsRow.lt hw.own
  have hsz := hbW.size
  have hold : ∀ k, k < w.heap.size → v.ownBlock ≠ some k → w'.heap[k]? = w.heap[k]? := fun k hk hne => by
    rw [hgrow.block k (by omega) (Ne.symm hne), hbW.block k hk]
  have hbel : Below B w w' := ⟨hgrow.os.trans hbW.os, hgrow.tape.trans hbW.tape, hgrow.output.trans hbW.output, by have := hgrow.size; omega, fun k hk => hold k (by omega) fun e => by have := (hlow k e).1; omega⟩
  have hnew : w'.heap[b1]? = some (.cells (n.map Value.string).toArray 9 (0, 0)) := by
    rw [hgrow.block _ hb1lt (fun e => by have := (hlow _ e.symm).2; omega)]
    exact hb1
  refine ⟨⟨?_, hw.inn.snoc n b1 hnew (by omega) hlow1 fun j hj => hold _ (hw.inn.lt hj) fun e => hw.apart _ e j hj rfl, fun k hk j hj => ?_⟩, hbel⟩
  · rw [List.length_append, rowV_snoc]
    exact hown'
  · obtain rfl : g = k := Option.some.inj hk
    simp only [List.length_append, List.length_singleton] at hj
    rcases hloc with h1 | h1
    · by_cases ej : j = ns.length
      · simp only [addQ, ej, if_true]
        have := (hlow _ h1).2; omega
      · simp only [addQ, ej, if_false]
        exact hw.apart _ h1 j (by omega)
    · by_cases ej : j = ns.length
      · simp only [addQ, ej, if_true]; omega
      · simp only [addQ, ej, if_false]
        have := hw.inn.lt (show j < ns.length by omega); omega
/-- append(out, []string{..}) at a step of a region that draws its order. -/
theorem step_way {ops : Array Oper} {o : Oper} {a : Act} {K : Act → World → Prop} {Q : Exit → Act → World → Prop} {E : Prop} {w W : World} (hgd : o.guard = none) (s x : Operand)
    (ho : o.op = .call { callee := .builtin .append, args := #[s, x], argTypes := #[80, 80] })
    (B : Nat) (v : Value) (q : Nat → Nat) (ns : List (List ByteArray)) (hs : a.eval s = v) (hw : WaysW w B v q ns) (hbW : Below w.heap.size w W) (n : List ByteArray) (b1 : Nat) (hb1 : W.heap[b1]? = some (.cells (n.map Value.string).toArray 9 (0, 0))) (hlow1 : w.heap.size ≤ b1) (b2 : Nat)
    (hx : a.eval x = .slice (some ⟨b2, 0, none⟩) 1 1) (m : Nat) (hm : m = n.length) (hb2 : W.cell? ⟨b2, 0, none⟩ = some (.slice (some ⟨b1, 0, none⟩) m m))
    (hn : ns.length ≤ 1000) (hB : B ≤ w.heap.size)
    (h : ∀ g cap q' w', WaysW w' B (.slice (some ⟨g, 0, none⟩) (ns.length + 1) cap) q' (ns ++ [n]) → Below B w w' → K (a.put o.dst (.slice (some ⟨g, 0, none⟩) (ns.length + 1) cap)) w') :
    if Region.wanted o (yielded ops a.tmps) = true then Oper.wp Tryd.prog o a W K Q else E := by
  subst hm
  obtain ⟨i, hi, hz0, hz1, hz2⟩ := info_parts infoSls
  refine step_append_lies _ hgd s x 80 ho B 35 i (.slice none 0 0) 1 24 Tryd.underlying80 hi hz0 hz1 hz2 rfl (by decide) v ns.length (rowV q ns) hs (hw.below hbW).own ⟨b2, 0, none⟩ 1 1 [.slice (some ⟨b1, 0, none⟩) n.length n.length] hx rfl ?_ ?_ (by decide) (by unfold maxLen; omega) (by omega) (Nat.le_trans hB hbW.size) _ rfl ?_
  · intro j u hj
    match j, hj with
    | 0, hj =>
      simp at hj
      subst hj
      have : (⟨b2, 0, none⟩ : Addr).add 0 = ⟨b2, 0, none⟩ := by simp [Addr.add]
      rw [this]; exact hb2
  · intro u hu; simp at hu; subst hu; rfl
  · intro g cap w' hown' hgrow hloc _
    obtain ⟨h1, h2⟩ := way_grow hw hbW n b1 hb1 hlow1 hB g cap hown' hgrow hloc
    exact h g cap _ w' h1 h2
end
/-- [][]string with one empty list: its list's block just ahead of it. -/
theorem WaysW.start (w : World) (B : Nat) (hB : B ≤ w.heap.size) : WaysW ((w.alloc (.cells #[] 9)).alloc (.cells #[.slice (some ⟨w.heap.size, 0, none⟩) 0 0] 35)) B (.slice (some ⟨w.heap.size + 1, 0, none⟩) 1 1) (fun _ => w.heap.size) [[]] := by
  refine ⟨⟨rfl, .inr ⟨w.heap.size + 1, 1, #[.slice (some ⟨w.heap.size, 0, none⟩) 0 0], rfl, by omega, ?_, Nat.le_refl _, by unfold maxLen; omega, rfl, rfl⟩⟩, ⟨fun j hj => ?_, fun j hj => hB, fun i j hi hj _ => by simp at hi hj; omega⟩, fun k hk j hj => ?_⟩
  · have := heap_alloc_new (w.alloc (.cells #[] 9)) (.cells #[.slice (some ⟨w.heap.size, 0, none⟩) 0 0] 35)
    rwa [show (w.alloc (.cells #[] 9)).heap.size = w.heap.size + 1 by simp] at this
  · obtain rfl : j = 0 := by simpa using hj
    rw [Below.heap_alloc _ _ _ (by simp)]
    exact heap_alloc_new w _
  · have := Option.some.inj hk
    simp at this
    omega
theorem two_below (w : World) (a b : Obj) : Below w.heap.size w ((w.alloc a).alloc b).drew := (((Below.refl _ _).alloc (Nat.le_refl _) a).alloc (by simp) b).drew
theorem two_first (w : World) (a b : Obj) : ((w.alloc a).alloc b).drew.heap[w.heap.size]? = some a := by
  show ((w.alloc a).alloc b).heap[w.heap.size]? = some a
  rw [Below.heap_alloc _ _ _ (by simp)]
  exact heap_alloc_new w a
theorem two_second (w : World) (a : Obj) (v : Value) (t : TypeId) : ((w.alloc a).alloc (.cells #[v] t)).drew.cell? ⟨w.heap.size + 1, 0, none⟩ = some v := by
  have h := heap_alloc_new (w.alloc a) (.cells #[v] t)
  rw [show (w.alloc a).heap.size = w.heap.size + 1 by simp] at h
  show ((w.alloc a).alloc (.cells #[v] t)).cell? _ = _
  simp only [World.cell?, h]
  rfl
end Go.Proofs.YtgefgdkejenhnaaDoor
