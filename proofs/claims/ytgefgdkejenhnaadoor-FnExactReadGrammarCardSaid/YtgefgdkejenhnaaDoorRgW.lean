/- A grammar that grows in a box of the call's own: an affix, a stem more. Condition: Go's own bound on the bytes of a slice. -/
import Derived.Test.YtgefgdkejenhnaaDoorRgL
import Derived.Test.YtgefgdkejenhnaaDoorMs
import Derived.Test.YtgefgdkejenhnaaDoorAl
import Derived.Deep.AppendLies
namespace Go.Proofs.YtgefgdkejenhnaaDoor
open Go.RowKit
theorem infoAffS : (Tryd.prog.info? 64).map (fun i => (i.zero, i.size, i.bytes)) = some (some (.agg #[.string ⟨#[]⟩, .bool false, .string ⟨#[]⟩, .string ⟨#[]⟩, .string ⟨#[]⟩]), 5, 72) := by kernel_rfl
theorem infoStmS : (Tryd.prog.info? 67).map (fun i => (i.zero, i.size, i.bytes)) = some (some (.agg #[.string ⟨#[]⟩, .slice none 0 0]), 2, 40) := by kernel_rfl
/-- The box gb holds the two slices; all blocks of the grammar are apart, at B or above. -/
structure GB (w : World) (B gb : Nat) (v1 v2 : Value) (g : GraD) (q : Nat → Nat) (us : List Value) : Prop where
  box : w.heap[gb]? = some (.cells #[v1, v2] 31 (0, 0))
  gbB : gb < B
  aff : w.ownsRow B 64 5 v1 g.affixes.length (g.affixes.flatMap affL)
  stm : w.ownsRow B 67 2 v2 g.stems.length ((g.stems.zip us).flatMap stemL)
  len : us.length = g.stems.length
  uses : ∀ j (h : j < g.stems.length) (h' : j < us.length), StrsW w (q j) (q j + 1) us[j] g.stems[j].uses
  low : ∀ j, j < g.stems.length → B ≤ q j ∧ q j < w.heap.size
  inj : ∀ i j, i < g.stems.length → j < g.stems.length → q i = q j → i = j
  ap : ∀ k, v1.ownBlock = some k → v2.ownBlock ≠ some k
  apq : ∀ j, j < g.stems.length → v1.ownBlock ≠ some (q j) ∧ v2.ownBlock ≠ some (q j)
  lima : ∀ x ∈ g.affixes, AffLim x maxLen
  lims : ∀ s ∈ g.stems, s.word.size ≤ maxLen
theorem own_below {w w' : World} {B e sz : Nat} {v : Value} {n : Nat} {xs : List Value} (h : w.ownsRow B e sz v n xs) (hb : Below w.heap.size w w') : w'.ownsRow B e sz v n xs :=
  World.ownsRow.kept h ⟨hb.os, hb.tape, hb.output, hb.size, fun k hk _ => hb.block k hk⟩ (by cases v.ownBlock <;> simp) (row := none)
theorem GB.below {w w' : World} {B gb v1 v2 g q us} (h : GB w B gb v1 v2 g q us) (hb : Below w.heap.size w w') : GB w' B gb v1 v2 g q us :=
  ⟨(hb.block gb (Array.getElem?_eq_some_iff.1 h.box).1).trans h.box, h.gbB, own_below h.aff hb, own_below h.stm hb, h.len, fun j hj hj' => (h.uses j hj hj').below hb, fun j hj => ⟨(h.low j hj).1, Nat.lt_of_lt_of_le (h.low j hj).2 hb.size⟩, h.inj, h.ap, h.apq, h.lima, h.lims⟩
theorem GB.start {w : World} {B gb : Nat} (hb : w.heap[gb]? = some (.cells #[.slice none 0 0, .slice none 0 0] 31 (0, 0))) (hB : gb < B) : GB w B gb (.slice none 0 0) (.slice none 0 0) emptyG (fun _ => 0) [] :=
  ⟨hb, hB, World.ownsRow_nil _ _ _ _, World.ownsRow_nil _ _ _ _, rfl, fun j h => by simp [emptyG] at h, fun j h => by simp [emptyG] at h, fun i j h => by simp [emptyG] at h, fun k h => by simp [Value.ownBlock] at h, fun j h => by simp [emptyG] at h, by simp [emptyG], by simp [emptyG]⟩
theorem own_shape {w : World} {B e sz : Nat} {v : Value} {n : Nat} {xs : List Value} (h : w.ownsRow B e sz v n xs) : ∃ a cap, v = .slice a n cap ∧ n ≤ cap ∧ cap ≤ maxLen := by
  rcases h.2 with ⟨hv, h0⟩ | ⟨g, cap, cur, hv, _, _, h1, h2, _⟩
  · exact ⟨none, 0, by rw [hv, h0], by omega, by unfold maxLen; omega⟩
  · exact ⟨_, cap, hv, h1, h2⟩
theorem GB.cell0 {w : World} {B gb v1 v2 g q us} (h : GB w B gb v1 v2 g q us) : w.cell? ⟨gb, 0, none⟩ = some v1 ∧ w.frozen? ⟨gb, 0, none⟩ = false := cell_of_heap (i := 0) (v := v1) h.box rfl
theorem GB.cell1 {w : World} {B gb v1 v2 g q us} (h : GB w B gb v1 v2 g q us) : w.cell? ⟨gb, 1, none⟩ = some v2 ∧ w.frozen? ⟨gb, 1, none⟩ = false := cell_of_heap (i := 1) (v := v2) h.box rfl
/-- Blocks below B, but gb, and what lies outside are as they were. -/
structure KeepG (B gb : Nat) (w w' : World) : Prop where
  os : w'.os = w.os
  tape : w'.tape = w.tape
  output : w'.output = w.output
  size : w.heap.size ≤ w'.heap.size
  block : ∀ k, k < B → k ≠ gb → w'.heap[k]? = w.heap[k]?
theorem KeepG.refl (B gb : Nat) (w : World) : KeepG B gb w w := ⟨rfl, rfl, rfl, Nat.le_refl _, fun _ _ _ => rfl⟩
theorem KeepG.trans {B gb : Nat} {a b c : World} (h : KeepG B gb a b) (k : KeepG B gb b c) : KeepG B gb a c :=
  ⟨k.os.trans h.os, k.tape.trans h.tape, k.output.trans h.output, Nat.le_trans h.size k.size, fun i hi hn => (k.block i hi hn).trans (h.block i hi hn)⟩
theorem KeepG.of_below {B gb : Nat} {w w' : World} (h : Below w.heap.size w w') (hB : B ≤ w.heap.size) : KeepG B gb w w' := ⟨h.os, h.tape, h.output, h.size, fun k hk _ => h.block k (by omega)⟩
theorem KeepG.below {B gb C : Nat} {w w' : World} (h : KeepG B gb w w') (hC : C ≤ B) (hg : C ≤ gb) : Below C w w' := ⟨h.os, h.tape, h.output, h.size, fun k hk => h.block k (by omega) (by omega)⟩
theorem KeepG.cell {B gb : Nat} {w w' : World} (h : KeepG B gb w w') {b o : Nat} {u : Value} (hb : b < B) (hn : b ≠ gb) (hc : w.cell? ⟨b, o, none⟩ = some u) : w'.cell? ⟨b, o, none⟩ = some u := by
  rw [← hc]; simp only [World.cell?, h.block b hb hn]
theorem KeepG.strs {B gb lo hi : Nat} {w w' : World} {v : Value} {l : List ByteArray} (h : KeepG B gb w w') (hs : StrsW w lo hi v l) (hh : hi ≤ B) (hg : gb < lo ∨ hi ≤ gb) : StrsW w' lo hi v l := by
  obtain ⟨⟨h1, a, c, e, h2, h3, h4⟩, h5⟩ := hs
  refine ⟨⟨h1, a, c, e, h2, h3, ?_⟩, h5⟩
  rcases h4 with h4 | ⟨g, off, cur, e2, hg1, hg2, h6, h7⟩
  · exact .inl h4
  · exact .inr ⟨g, off, cur, e2, hg1, hg2, (h.block g (by omega) (by omega)).trans h6, h7⟩
/-- What the blocks of v look like behind a growth and a store into the box. -/
theorem grown_store {w W w' : World} (gb : Nat) {u v : Value} {o : Nat} (hbW : Below w.heap.size w W) (hgr : W.grownBy w' v.ownBlock) (k : Nat) (hk : k < w.heap.size) (hne : some k ≠ v.ownBlock) (hkg : k ≠ gb) : (w'.setCell ⟨gb, o, none⟩ u).heap[k]? = w.heap[k]? := by
  rw [Below.heap_setCell _ _ _ _ (show k ≠ gb from hkg), hgr.block k (Nat.lt_of_lt_of_le hk hbW.size) hne, hbW.block k hk]
theorem size_set (w : World) (a : Addr) (u : Value) : (w.setCell a u).heap.size = w.heap.size := by simp [World.setCell]
theorem own_frame {w w' : World} {B e sz : Nat} {v : Value} {n : Nat} {xs : List Value} (h : w.ownsRow B e sz v n xs) (hk : ∀ k, v.ownBlock = some k → w'.heap[k]? = w.heap[k]?) : w'.ownsRow B e sz v n xs := by
  obtain ⟨h1, h2⟩ := h
  refine ⟨h1, ?_⟩
  rcases h2 with h2 | ⟨g, cap, cur, hv, hb, hg, rest⟩
  · exact .inl h2
  · exact .inr ⟨g, cap, cur, hv, hb, (hk g (by rw [hv]; rfl)).trans hg, rest⟩
theorem strs_frame {w w' : World} {b : Nat} {v : Value} {l : List ByteArray} (h : StrsW w b (b + 1) v l) (hk : w'.heap[b]? = w.heap[b]?) : StrsW w' b (b + 1) v l := ⟨h.1.of_block hk, h.2⟩
/-- One affix more. -/
theorem GB.affix {w W w' : World} {B gb v1 v2 g q us} (h : GB w B gb v1 v2 g q us) (hbW : Below w.heap.size w W) (hB : B ≤ w.heap.size) (x : AffD) (hx : AffLim x maxLen) (gn cap : Nat)
    (hown : w'.ownsRow B 64 5 (.slice (some ⟨gn, 0, none⟩) (g.affixes.length + 1) cap) (g.affixes.length + 1) (g.affixes.flatMap affL ++ affL x)) (hgr : W.grownBy w' v1.ownBlock) (hloc : v1.ownBlock = some gn ∨ gn = W.heap.size) :
    GB (w'.setCell ⟨gb, 0, none⟩ (.slice (some ⟨gn, 0, none⟩) (g.affixes.length + 1) cap)) B gb (.slice (some ⟨gn, 0, none⟩) (g.affixes.length + 1) cap) v2 ⟨g.affixes ++ [x], g.stems⟩ q us ∧
      KeepG B gb w (w'.setCell ⟨gb, 0, none⟩ (.slice (some ⟨gn, 0, none⟩) (g.affixes.length + 1) cap)) ∧
      (w'.cell? ⟨gb, 0, none⟩ = some v1 ∧ w'.frozen? ⟨gb, 0, none⟩ = false) ∧ (v1.ownBlock = some gn ∨ w.heap.size ≤ gn) := by
  have hgbl := (Array.getElem?_eq_some_iff.1 h.box).1
  have hlow : ∀ k, v1.ownBlock = some k → B ≤ k ∧ k < w.heap.size := World.ownsRow.lt h.aff
  have hlow2 : ∀ k, v2.ownBlock = some k → B ≤ k ∧ k < w.heap.size := World.ownsRow.lt h.stm
  have hgne : some gb ≠ v1.ownBlock := fun e => by have := (hlow gb e.symm).1; have := h.gbB; omega
  have hgb' : w'.heap[gb]? = some (.cells #[v1, v2] 31 (0, 0)) := by rw [hgr.block gb (Nat.lt_of_lt_of_le hgbl hbW.size) hgne, hbW.block gb hgbl]; exact h.box
  have hgn : v1.ownBlock = some gn ∨ w.heap.size ≤ gn := by
    rcases hloc with h1 | h1
    · exact .inl h1
    · right; rw [h1]; exact hbW.size
  have hsz : w.heap.size ≤ w'.heap.size := Nat.le_trans hbW.size hgr.size
  have hfr : ∀ k, k < w.heap.size → some k ≠ v1.ownBlock → k ≠ gb → (w'.setCell ⟨gb, 0, none⟩ (.slice (some ⟨gn, 0, none⟩) (g.affixes.length + 1) cap)).heap[k]? = w.heap[k]? := fun k hk h1 h2 => grown_store gb hbW hgr k hk h1 h2
  have hgnB : B ≤ gn := by rcases hgn with e | e; exact (hlow gn e).1; omega
  refine ⟨⟨?_, h.gbB, ?_, ?_, h.len, fun j hj hj' => ?_, fun j hj => ?_, h.inj, fun k hk => ?_, fun j hj => ?_, fun y hy => ?_, h.lims⟩, ⟨?_, ?_, ?_, ?_, fun k hk hkg => ?_⟩, cell_of_heap (i := 0) (v := v1) hgb' rfl, hgn⟩
  · exact set_heap (i := 0) _ hgb'
  · have hgb3 := h.gbB
    rw [List.length_append, List.flatMap_append, List.flatMap_singleton]
    exact own_frame hown fun k hk => Below.heap_setCell _ _ _ _ (by show k ≠ gb; have : gn = k := Option.some.inj hk; omega)
  · exact own_frame h.stm fun k hk => hfr k (hlow2 k hk).2 (fun e => h.ap k e.symm hk) (by have := (hlow2 k hk).1; have := h.gbB; omega)
  · exact strs_frame (h.uses j hj hj') (hfr _ (h.low j hj).2 (fun e => (h.apq j hj).1 e.symm) (by have := (h.low j hj).1; have := h.gbB; omega))
  · rw [size_set]; exact ⟨(h.low j hj).1, by have := (h.low j hj).2; omega⟩
  · have hk : gn = k := Option.some.inj hk
    subst hk
    rcases hgn with e | e
    · exact h.ap gn e
    · intro e2; have := (hlow2 gn e2).2; omega
  · refine ⟨fun e => ?_, (h.apq j hj).2⟩
    have e : gn = q j := Option.some.inj e
    rcases hgn with e2 | e2
    · exact (h.apq j hj).1 (by rw [e2, e])
    · have := (h.low j hj).2; omega
  · rcases List.mem_append.1 hy with hy | hy
    · exact h.lima y hy
    · rw [List.mem_singleton.1 hy]; exact hx
  · exact hgr.os.trans hbW.os
  · exact hgr.tape.trans hbW.tape
  · exact hgr.output.trans hbW.output
  · rw [size_set]; exact hsz
  · exact hfr k (by omega) (fun e => by have := (hlow k e.symm).1; omega) hkg
/-- One stem more, its uses in block qn. -/
theorem GB.stem {w W w' : World} {B gb v1 v2 g q us} (h : GB w B gb v1 v2 g q us) (hbW : Below w.heap.size w W) (hB : B ≤ w.heap.size) (s : StemD) (u : Value) (qn : Nat) (hs : s.word.size ≤ maxLen) (gn cap : Nat)
    (hu : StrsW W qn (qn + 1) u s.uses) (hq1 : B ≤ qn ∧ qn < W.heap.size) (hqq : ∀ j, j < g.stems.length → q j ≠ qn) (hq2 : v1.ownBlock ≠ some qn ∧ v2.ownBlock ≠ some qn)
    (hown : w'.ownsRow B 67 2 (.slice (some ⟨gn, 0, none⟩) (g.stems.length + 1) cap) (g.stems.length + 1) ((g.stems.zip us).flatMap stemL ++ [.string s.word, u])) (hgr : W.grownBy w' v2.ownBlock) (hloc : v2.ownBlock = some gn ∨ gn = W.heap.size) :
    GB (w'.setCell ⟨gb, 1, none⟩ (.slice (some ⟨gn, 0, none⟩) (g.stems.length + 1) cap)) B gb v1 (.slice (some ⟨gn, 0, none⟩) (g.stems.length + 1) cap) ⟨g.affixes, g.stems ++ [s]⟩ (fun j => if j = g.stems.length then qn else q j) (us ++ [u]) ∧
      KeepG B gb w (w'.setCell ⟨gb, 1, none⟩ (.slice (some ⟨gn, 0, none⟩) (g.stems.length + 1) cap)) ∧
      (w'.cell? ⟨gb, 1, none⟩ = some v2 ∧ w'.frozen? ⟨gb, 1, none⟩ = false) := by
  have hgbl := (Array.getElem?_eq_some_iff.1 h.box).1
  have hgbB := h.gbB
  have hlow : ∀ k, v1.ownBlock = some k → B ≤ k ∧ k < w.heap.size := World.ownsRow.lt h.aff
  have hlow2 : ∀ k, v2.ownBlock = some k → B ≤ k ∧ k < w.heap.size := World.ownsRow.lt h.stm
  have hgne : some gb ≠ v2.ownBlock := fun e => by have := (hlow2 gb e.symm).1; omega
  have hgb' : w'.heap[gb]? = some (.cells #[v1, v2] 31 (0, 0)) := by rw [hgr.block gb (Nat.lt_of_lt_of_le hgbl hbW.size) hgne, hbW.block gb hgbl]; exact h.box
  have hgn : v2.ownBlock = some gn ∨ W.heap.size ≤ gn := by
    rcases hloc with h1 | h1
    · exact .inl h1
    · right; omega
  have hWs := hbW.size
  have hsz : w.heap.size ≤ w'.heap.size := Nat.le_trans hbW.size hgr.size
  have hfr : ∀ k, k < w.heap.size → some k ≠ v2.ownBlock → k ≠ gb → (w'.setCell ⟨gb, 1, none⟩ (.slice (some ⟨gn, 0, none⟩) (g.stems.length + 1) cap)).heap[k]? = w.heap[k]? := fun k hk h1 h2 => grown_store gb hbW hgr k hk h1 h2
  have hgnB : B ≤ gn := by rcases hgn with e | e; exact (hlow2 gn e).1; omega
  have hqg : qn ≠ gn := fun e => by
    rcases hgn with e2 | e2
    · exact hq2.2 (by rw [e2, e])
    · omega
  have hufr : (w'.setCell ⟨gb, 1, none⟩ (.slice (some ⟨gn, 0, none⟩) (g.stems.length + 1) cap)).heap[qn]? = W.heap[qn]? := by
    rw [Below.heap_setCell _ _ _ _ (show qn ≠ gb by omega), hgr.block qn hq1.2 (fun e => hq2.2 e.symm)]
  refine ⟨⟨?_, h.gbB, ?_, ?_, by simp [h.len], fun j hj hj' => ?_, fun j hj => ?_, fun i j hi hj e => ?_, fun k hk e => ?_, fun j hj => ?_, h.lima, fun y hy => ?_⟩, ⟨?_, ?_, ?_, ?_, fun k hk hkg => ?_⟩, cell_of_heap (i := 1) (v := v2) hgb' rfl⟩
  · exact set_heap (i := 1) _ hgb'
  · exact own_frame h.aff fun k hk => hfr k (hlow k hk).2 (fun e => h.ap k hk e.symm) (by have := (hlow k hk).1; omega)
  · have ez : ((g.stems ++ [s]).zip (us ++ [u])).flatMap stemL = (g.stems.zip us).flatMap stemL ++ [.string s.word, u] := by
      rw [List.zip_append h.len.symm, List.flatMap_append]; rfl
    rw [List.length_append, ez]
    exact own_frame hown fun k hk => Below.heap_setCell _ _ _ _ (by show k ≠ gb; have : gn = k := Option.some.inj hk; omega)
  · by_cases e : j = g.stems.length
    · subst e
      have e1 : (us ++ [u])[g.stems.length] = u := by
        have := h.len
        rw [List.getElem_append_right (by omega)]
        simp [h.len]
      have e2 : (g.stems ++ [s])[g.stems.length] = s := by simp
      simp only [if_true, e1, e2]
      exact strs_frame hu hufr
    · have hj2 : j < g.stems.length := by simp at hj; omega
      have hj3 : j < us.length := by have := h.len; omega
      simp only [if_neg e, List.getElem_append_left hj2, List.getElem_append_left hj3]
      exact strs_frame (h.uses j hj2 hj3) (hfr _ (h.low j hj2).2 (fun e => (h.apq j hj2).2 e.symm) (by have := (h.low j hj2).1; omega))
  · rw [size_set]
    by_cases e : j = g.stems.length
    · simp only [if_pos e]; have := hgr.size; omega
    · have hj2 : j < g.stems.length := by simp at hj; omega
      simp only [if_neg e]
      exact ⟨(h.low j hj2).1, by have := (h.low j hj2).2; omega⟩
  · simp only [List.length_append, List.length_singleton] at hi hj
    by_cases ei : i = g.stems.length <;> by_cases ej : j = g.stems.length
    · omega
    · simp only [if_pos ei, if_neg ej] at e
      exact absurd e.symm (hqq j (by omega))
    · simp only [if_neg ei, if_pos ej] at e
      exact absurd e (hqq i (by omega))
    · simp only [if_neg ei, if_neg ej] at e
      exact h.inj i j (by omega) (by omega) e
  · have e : gn = k := Option.some.inj e
    subst e
    rcases hgn with e2 | e2
    · exact h.ap gn hk e2
    · have := (hlow gn hk).2; omega
  · simp only [List.length_append, List.length_singleton] at hj
    by_cases e : j = g.stems.length
    · simp only [if_pos e]
      exact ⟨hq2.1, fun e2 => hqg (Option.some.inj e2).symm⟩
    · simp only [if_neg e]
      refine ⟨(h.apq j (by omega)).1, fun e2 => ?_⟩
      have e2 : gn = q j := Option.some.inj e2
      rcases hgn with e3 | e3
      · exact (h.apq j (by omega)).2 (by rw [e3, e2])
      · have := (h.low j (by omega)).2; omega
  · rcases List.mem_append.1 hy with hy | hy
    · exact h.lims y hy
    · rw [List.mem_singleton.1 hy]; exact hs
  · exact hgr.os.trans hbW.os
  · exact hgr.tape.trans hbW.tape
  · exact hgr.output.trans hbW.output
  · rw [size_set]; exact hsz
  · exact hfr k (by omega) (fun e => by have := (hlow2 k e.symm).1; omega) hkg
/-- A list without its first strings. -/
theorem StrsW.dropN {w : World} {lo hi : Nat} {b o n c : Nat} {l : List ByteArray} (h : StrsW w lo hi (.slice (some ⟨b, o, none⟩) n c) l) (m : Nat) (hm : m ≤ l.length) : StrsW w lo hi (.slice (some ⟨b, o + m, none⟩) (n - m) (c - m)) (l.drop m) := by
  obtain ⟨⟨h1, a, c', e, h2, h3, h4⟩, h5⟩ := h
  injection e with e1 e2 e3
  subst e1 e2 e3
  refine ⟨⟨by simp, some ⟨b, o + m, none⟩, c - m, by rw [List.length_drop], by rw [List.length_drop]; omega, by omega, ?_⟩, fun s hs => h5 s (List.mem_of_mem_drop hs)⟩
  rcases h4 with h4 | ⟨g, off, cur, e, hg, hg2, hh, hs, ht⟩
  · left; rw [List.length_drop]; omega
  · cases e
    refine .inr ⟨_, _, cur, rfl, hg, hg2, hh, by rw [List.length_drop]; omega, ?_⟩
    rw [List.map_drop, ← ht, List.drop_take, List.drop_drop, List.length_drop]
    congr 1
    omega
theorem own_exact {w : World} {B e sz : Nat} {v : Value} {n : Nat} {xs : List Value} (h : w.ownsRow B e sz v n xs) (d : Nat) : ∃ k, ((v.ownBlock = some k ∧ B ≤ k ∧ k < w.heap.size) ∨ (v.ownBlock = none ∧ k = d)) ∧ SlW w k (k + 1) e sz v n xs := by
  rcases h.2 with ⟨rfl, rfl⟩ | ⟨g, cap, cur, rfl, hg, hh, h1, h2, h3, h4⟩
  · exact ⟨d, .inr ⟨rfl, rfl⟩, h.1, none, 0, rfl, Nat.le_refl _, by unfold maxLen; omega, .inl rfl⟩
  · refine ⟨g, .inl ⟨rfl, hg, (Array.getElem?_eq_some_iff.1 hh).1⟩, h.1, _, cap, rfl, h1, h2, .inr ⟨g, 0, cur, rfl, Nat.le_refl _, Nat.lt_succ_self _, hh, ?_, by simpa using h4⟩⟩
    have := Nat.mul_le_mul_right sz h1
    omega
/-- A grammar in its box, as it is handed back; rb: one more block of the call's own. -/
theorem GB.graX {w : World} {B gb rb lo : Nat} {v1 v2 : Value} {g : GraD} {q us} (h : GB w B gb v1 v2 g q us) (hlo : lo ≤ gb) (hr : lo ≤ rb) (hrB : rb < B) (hne : rb ≠ gb) (hB : B ≤ w.heap.size) : GraX w lo w.heap.size (.agg #[v1, v2]) g := by
  have hgB := h.gbB
  obtain ⟨ab, ha, hA⟩ := own_exact h.aff gb
  obtain ⟨og, ho, hO⟩ := own_exact h.stm rb
  have hq : ∀ j, j < g.stems.length → q j ≠ ab ∧ q j ≠ og := fun j hj => by
    have h1 := (h.low j hj).1
    have h2 := h.apq j hj
    refine ⟨fun e => ?_, fun e => ?_⟩
    · rcases ha with ⟨h3, -⟩ | ⟨-, rfl⟩
      · exact h2.1 (by rw [h3, e])
      · omega
    · rcases ho with ⟨h3, -⟩ | ⟨-, rfl⟩
      · exact h2.2 (by rw [h3, e])
      · omega
  have hao : ab ≠ og := fun e => by
    subst e
    rcases ha with ⟨h1, h2, h3⟩ | ⟨h1, rfl⟩ <;> rcases ho with ⟨h4, h5, h6⟩ | ⟨h4, h5⟩
    · exact h.ap _ h1 h4
    · omega
    · omega
    · omega
  refine ⟨v1, v2, ab, og, q, us, rfl, ⟨hA, h.lima⟩, ⟨h.len, hO, h.lims, h.uses, fun j hj => (hq j hj).2, h.inj⟩, ?_, ?_, hao, fun j hj => ?_⟩
  · rcases ha with ⟨-, h2, h3⟩ | ⟨-, rfl⟩
    · omega
    · omega
  · rcases ho with ⟨-, h2, h3⟩ | ⟨-, rfl⟩
    · omega
    · omega
  · have h1 := h.low j hj
    exact ⟨by omega, h1.2, (hq j hj).1⟩
end Go.Proofs.YtgefgdkejenhnaaDoor
