/- subsets of the program: a closure that calls itself and a visitor. Conditions: counts that are small, at most seven tiles. -/
import Derived.Test.YthpjinfkagllfaaWz
import Derived.Test.YthpjinfkagllfaaSuL
set_option linter.unusedSimpArgs false
namespace Go.Proofs.Ythpjinfkagllfaa
open Go.RowKit
/-- The visitor, and the closure. -/
def visF (ob : Nat) : Value := .func (.func 45) #[] #[.pointer (some ⟨ob, 0, none⟩)]
def subF (bf nb vb cb kb : Nat) : Value := .func (.func 78) #[] #[.pointer (some ⟨bf, 0, none⟩), .pointer (some ⟨nb, 0, none⟩), .pointer (some ⟨vb, 0, none⟩), .pointer (some ⟨cb, 0, none⟩), .pointer (some ⟨kb, 0, none⟩)]
/-- What lies in the closure's variables. -/
structure SubS (w : World) (B bf nb vb cb kb ob : Nat) (n : Nat) (f : Nat → Int) (bv yv : Value) (l : List ByteArray) (bs : List UInt8) : Prop where
  num : w.heap[nb]? = some (.cells #[.int .i64 n] 3 (0, 0))
  vis : w.heap[vb]? = some (.cells #[visF ob] 29 (0, 0))
  buf : w.heap[bf]? = some (.cells #[bv] 30 (0, 0))
  cnt : w.heap[cb]? = some (.cells (cs f) 53 (0, 0))
  walk : w.heap[kb]? = some (.cells #[subF bf nb vb cb kb] 84 (0, 0))
  out : w.heap[ob]? = some (.cells #[yv] 22 (0, 0))
  bytes : OwnB w B bv bs
  own : OwnS w B yv l
  apart : ∀ k, yv.ownBlock = some k → k ≠ bf ∧ k ≠ nb ∧ k ≠ vb ∧ k ≠ cb ∧ k ≠ kb ∧ k ≠ ob ∧ bv.ownBlock ≠ some k
  apartB : ∀ k, bv.ownBlock = some k → k ≠ bf ∧ k ≠ nb ∧ k ≠ vb ∧ k ≠ cb ∧ k ≠ kb ∧ k ≠ ob
/-- What may have turned: the output, the buffer, the counts; new blocks. -/
structure FrS (w w' : World) (bf cb ob : Nat) (bv bv' yv yv' : Value) : Prop where
  os : w'.os = w.os
  tape : w'.tape = w.tape
  output : w'.output = w.output
  size : w.heap.size ≤ w'.heap.size
  block : ∀ k, k < w.heap.size → k ≠ bf → k ≠ cb → k ≠ ob → bv.ownBlock ≠ some k → yv.ownBlock ≠ some k → w'.heap[k]? = w.heap[k]?
  ownB : ∀ k, bv'.ownBlock = some k → bv.ownBlock = some k ∨ w.heap.size ≤ k
  own : ∀ k, yv'.ownBlock = some k → yv.ownBlock = some k ∨ w.heap.size ≤ k
theorem FrS.refl (w : World) (bf cb ob : Nat) (bv yv : Value) : FrS w w bf cb ob bv bv yv yv := ⟨rfl, rfl, rfl, Nat.le_refl _, fun _ _ _ _ _ _ _ => rfl, fun _ h => .inl h, fun _ h => .inl h⟩
theorem FrS.trans {a b c : World} {bf cb ob : Nat} {t t2 t3 u v x : Value} (h : FrS a b bf cb ob t t2 u v) (k : FrS b c bf cb ob t2 t3 v x) : FrS a c bf cb ob t t3 u x :=
  ⟨k.os.trans h.os, k.tape.trans h.tape, k.output.trans h.output, Nat.le_trans h.size k.size,
    fun i hi h1 h2 h3 h4 h5 => (k.block i (Nat.lt_of_lt_of_le hi h.size) h1 h2 h3 (fun e => by rcases h.ownB i e with e | e; exact h4 e; omega) (fun e => by rcases h.own i e with e | e; exact h5 e; omega)).trans (h.block i hi h1 h2 h3 h4 h5),
    fun i hi => by
      rcases k.ownB i hi with e | e
      · exact h.ownB i e
      · exact .inr (Nat.le_trans h.size e),
    fun i hi => by
      rcases k.own i hi with e | e
      · exact h.own i e
      · exact .inr (Nat.le_trans h.size e)⟩
theorem FrS.of_below {w w' : World} {bf cb ob : Nat} {bv yv : Value} (h : Below w.heap.size w w') : FrS w w' bf cb ob bv bv yv yv := ⟨h.os, h.tape, h.output, h.size, fun k hk _ _ _ _ _ => h.block k hk, fun _ h => .inl h, fun _ h => .inl h⟩
theorem FrS.set {w : World} {bf cb ob : Nat} {bv yv : Value} (g o : Nat) (u : Value) (h : g = bf ∨ g = cb ∨ g = ob) : FrS w (w.setCell ⟨g, o, none⟩ u) bf cb ob bv bv yv yv :=
  ⟨rfl, rfl, rfl, by simp [World.setCell], fun k _ h1 h2 h3 _ _ => Below.heap_setCell _ _ _ _ (by show k ≠ g; omega), fun _ h => .inl h, fun _ h => .inl h⟩
theorem FrS.below {w w' : World} {bf cb ob B : Nat} {bv bv' yv yv' : Value} (h : FrS w w' bf cb ob bv bv' yv yv') (hB : B ≤ bf ∧ B ≤ cb ∧ B ≤ ob ∧ B ≤ w.heap.size) (hb : ∀ k, bv.ownBlock = some k → B ≤ k) (ho : ∀ k, yv.ownBlock = some k → B ≤ k) : Below B w w' :=
  ⟨h.os, h.tape, h.output, h.size, fun k hk => h.block k (by omega) (by omega) (by omega) (by omega) (fun e => by have := hb k e; omega) (fun e => by have := ho k e; omega)⟩
theorem SubS.below {w w' : World} {B bf nb vb cb kb ob n f bv yv l bs} (h : SubS w B bf nb vb cb kb ob n f bv yv l bs) (hb : Below w.heap.size w w') : SubS w' B bf nb vb cb kb ob n f bv yv l bs := by
  obtain ⟨h1, h2, h3, h4, h5, h6, h7, h8, h9, h10⟩ := h
  exact ⟨(hb.block _ (lt_of_heap h1)).trans h1, (hb.block _ (lt_of_heap h2)).trans h2, (hb.block _ (lt_of_heap h3)).trans h3, (hb.block _ (lt_of_heap h4)).trans h4, (hb.block _ (lt_of_heap h5)).trans h5, (hb.block _ (lt_of_heap h6)).trans h6, h7.below hb, h8.below hb, h9, h10⟩
/-- A count is stored. -/
theorem SubS.count {w : World} {B bf nb vb cb kb ob n f bv yv l bs} (h : SubS w B bf nb vb cb kb ob n f bv yv l bs) (S : Six bf nb vb cb kb ob) {p : Nat} (hp : p < 27) (x : Int) :
    SubS (w.setCell ⟨cb, p, none⟩ (.int .i64 x)) B bf nb vb cb kb ob n (upd f p x) bv yv l bs := by
  obtain ⟨h1, h2, h3, h4, h5, h6, h7, h8, h9, h10⟩ := h
  have hg := grown_setCell w cb p (.int .i64 x)
  have other : ∀ k, k ≠ cb → k < w.heap.size → (w.setCell ⟨cb, p, none⟩ (.int .i64 x)).heap[k]? = w.heap[k]? := fun k hk hl => hg.block k hl (fun e => hk (Option.some.inj e))
  refine ⟨(other _ S.bd (lt_of_heap h1)).trans h1, (other _ S.cd (lt_of_heap h2)).trans h2, (other _ S.ad (lt_of_heap h3)).trans h3, ?_, (other _ S.de.symm (lt_of_heap h5)).trans h5, (other _ S.df.symm (lt_of_heap h6)).trans h6, World.ownsRow.kept h7 hg ?_, World.ownsRow.kept h8 hg ?_, h9, h10⟩
  · rw [heap_setCell_same _ _ _ _ _ _ h4, cs_set _ _ _ hp]
  · cases ho : bv.ownBlock with
    | none => exact .inl rfl
    | some k => exact .inr fun e => (h10 k ho).2.2.2.1 (Option.some.inj e)
  · cases ho : yv.ownBlock with
    | none => exact .inl rfl
    | some k => exact .inr fun e => (h9 k ho).2.2.2.1 (Option.some.inj e)
/-- Something is visited. -/
theorem SubS.visited {w w' : World} {B bf nb vb cb kb ob n f bv yv l bs} (h : SubS w B bf nb vb cb kb ob n f bv yv l bs) (S : Six bf nb vb cb kb ob) {g n' c : Nat} {x : ByteArray}
    (hown : OwnS w' B (.slice (some ⟨g, 0, none⟩) n' c) (l ++ [x])) (hg : w.grownBy w' yv.ownBlock) (hl : some g = yv.ownBlock ∨ w.heap.size ≤ g) :
    SubS (w'.setCell ⟨ob, 0, none⟩ (.slice (some ⟨g, 0, none⟩) n' c)) B bf nb vb cb kb ob n f bv (.slice (some ⟨g, 0, none⟩) n' c) (l ++ [x]) bs ∧ FrS w (w'.setCell ⟨ob, 0, none⟩ (.slice (some ⟨g, 0, none⟩) n' c)) bf cb ob bv bv yv (.slice (some ⟨g, 0, none⟩) n' c) := by
  obtain ⟨h1, h2, h3, h4, h5, h6, h7, h8, h9, h10⟩ := h
  have hg2 := grown_setCell w' ob 0 (.slice (some ⟨g, 0, none⟩) n' c)
  have no : ∀ k, (k = bf ∨ k = nb ∨ k = vb ∨ k = cb ∨ k = kb ∨ k = ob) → some k ≠ yv.ownBlock := fun k hk e => by
    have := h9 k e.symm; omega
  have two : ∀ k, (k = bf ∨ k = nb ∨ k = vb ∨ k = cb ∨ k = kb) → k ≠ ob → k < w.heap.size → (w'.setCell ⟨ob, 0, none⟩ (.slice (some ⟨g, 0, none⟩) n' c)).heap[k]? = w.heap[k]? := fun k hk hy hlt =>
    (hg2.block k (Nat.lt_of_lt_of_le hlt hg.size) (fun e => hy (Option.some.inj e))).trans (hg.block k hlt (no k (by omega)))
  have hgn : ∀ k, (k = bf ∨ k = nb ∨ k = vb ∨ k = cb ∨ k = kb ∨ k = ob) → k < w.heap.size → g ≠ k := fun k hk hlt e => by
    subst e
    rcases hl with hl | hl
    · exact no g hk hl
    · omega
  have l1 := lt_of_heap h1; have l2 := lt_of_heap h2; have l3 := lt_of_heap h3; have l4 := lt_of_heap h4; have l5 := lt_of_heap h5; have l6 := lt_of_heap h6
  have hby : yv.ownBlock = none ∨ yv.ownBlock ≠ bv.ownBlock := by
    cases ho : yv.ownBlock with
    | none => exact .inl rfl
    | some k => exact .inr fun e => (h9 k ho).2.2.2.2.2.2 e.symm
  refine ⟨⟨(two _ (by simp) S.bf l1).trans h1, (two _ (by simp) S.cf l2).trans h2, (two _ (by simp) S.af l3).trans h3, (two _ (by simp) S.df l4).trans h4, (two _ (by simp) S.ef l5).trans h5, ?_, ?_,
    World.ownsRow.kept hown hg2 (.inr fun e => hgn ob (by simp) l6 (Option.some.inj e)), fun k hk => ?_, h10⟩, ⟨hg.os, hg.tape, hg.output, by simpa [World.setCell] using hg.size, fun k hk _ _ h3 _ h5 => ?_, fun _ h => .inl h, fun k hk => ?_⟩⟩
  · have := (hg.block ob l6 (no ob (by simp))).trans h6
    exact src_set (i := 0) this
  · refine World.ownsRow.kept (World.ownsRow.kept h7 hg ?_) hg2 ?_
    · cases ho : bv.ownBlock with
      | none => exact .inl rfl
      | some k => exact .inr fun e => (h9 k e.symm).2.2.2.2.2.2 ho
    · cases ho : bv.ownBlock with
      | none => exact .inl rfl
      | some k => exact .inr fun e => (h10 k ho).2.2.2.2.2 (Option.some.inj e)
  · obtain rfl : g = k := by simpa [Value.ownBlock] using hk
    refine ⟨hgn bf (by simp) l3, hgn nb (by simp) l1, hgn vb (by simp) l2, hgn cb (by simp) l4, hgn kb (by simp) l5, hgn ob (by simp) l6, fun e => ?_⟩
    rcases hl with hl | hl
    · exact (h9 g hl.symm).2.2.2.2.2.2 e
    · have := (World.ownsRow.lt h7 g e).2; omega
  · exact (hg2.block k (Nat.lt_of_lt_of_le hk hg.size) (fun e => h3 (Option.some.inj e))).trans (hg.block k hk (fun e => h5 e.symm))
  · obtain rfl : g = k := by simpa [Value.ownBlock] using hk
    rcases hl with hl | hl
    · exact .inl hl.symm
    · exact .inr hl
/-- A tile is pushed. -/
theorem SubS.pushed {w w' : World} {B bf nb vb cb kb ob n f bv yv l bs} (h : SubS w B bf nb vb cb kb ob n f bv yv l bs) (S : Six bf nb vb cb kb ob) {g n' c : Nat} {x : UInt8}
    (hown : OwnB w' B (.slice (some ⟨g, 0, none⟩) n' c) (bs ++ [x])) (hg : w.grownBy w' bv.ownBlock) (hl : some g = bv.ownBlock ∨ w.heap.size ≤ g) :
    SubS (w'.setCell ⟨bf, 0, none⟩ (.slice (some ⟨g, 0, none⟩) n' c)) B bf nb vb cb kb ob n f (.slice (some ⟨g, 0, none⟩) n' c) yv l (bs ++ [x]) ∧ FrS w (w'.setCell ⟨bf, 0, none⟩ (.slice (some ⟨g, 0, none⟩) n' c)) bf cb ob bv (.slice (some ⟨g, 0, none⟩) n' c) yv yv := by
  obtain ⟨h1, h2, h3, h4, h5, h6, h7, h8, h9, h10⟩ := h
  have hg2 := grown_setCell w' bf 0 (.slice (some ⟨g, 0, none⟩) n' c)
  have no : ∀ k, (k = bf ∨ k = nb ∨ k = vb ∨ k = cb ∨ k = kb ∨ k = ob) → some k ≠ bv.ownBlock := fun k hk e => by
    have := h10 k e.symm; omega
  have two : ∀ k, (k = ob ∨ k = nb ∨ k = vb ∨ k = cb ∨ k = kb) → k ≠ bf → k < w.heap.size → (w'.setCell ⟨bf, 0, none⟩ (.slice (some ⟨g, 0, none⟩) n' c)).heap[k]? = w.heap[k]? := fun k hk hy hlt =>
    (hg2.block k (Nat.lt_of_lt_of_le hlt hg.size) (fun e => hy (Option.some.inj e))).trans (hg.block k hlt (no k (by omega)))
  have hgn : ∀ k, (k = bf ∨ k = nb ∨ k = vb ∨ k = cb ∨ k = kb ∨ k = ob) → k < w.heap.size → g ≠ k := fun k hk hlt e => by
    subst e
    rcases hl with hl | hl
    · exact no g hk hl
    · omega
  have l1 := lt_of_heap h1; have l2 := lt_of_heap h2; have l3 := lt_of_heap h3; have l4 := lt_of_heap h4; have l5 := lt_of_heap h5; have l6 := lt_of_heap h6
  refine ⟨⟨(two _ (by simp) S.ab.symm l1).trans h1, (two _ (by simp) S.ac.symm l2).trans h2, ?_, (two _ (by simp) S.ad.symm l4).trans h4, (two _ (by simp) S.ae.symm l5).trans h5, (two _ (by simp) S.af.symm l6).trans h6,
    World.ownsRow.kept hown hg2 (.inr fun e => hgn bf (by simp) l3 (Option.some.inj e)), ?_, fun k hk => ?_, fun k hk => ?_⟩, ⟨hg.os, hg.tape, hg.output, by simpa [World.setCell] using hg.size, fun k hk h1 _ _ h4 _ => ?_, fun k hk => ?_, fun _ h => .inl h⟩⟩
  · have := (hg.block bf l3 (no bf (by simp))).trans h3
    exact src_set (i := 0) this
  · refine World.ownsRow.kept (World.ownsRow.kept h8 hg ?_) hg2 ?_
    · cases ho : yv.ownBlock with
      | none => exact .inl rfl
      | some k => exact .inr fun e => (h9 k ho).2.2.2.2.2.2 e.symm
    · cases ho : yv.ownBlock with
      | none => exact .inl rfl
      | some k => exact .inr fun e => (h9 k ho).1 (Option.some.inj e)
  · obtain ⟨a1, a2, a3, a4, a5, a6, a7⟩ := h9 k hk
    refine ⟨a1, a2, a3, a4, a5, a6, fun e => ?_⟩
    obtain rfl : g = k := by simpa [Value.ownBlock] using e
    rcases hl with hl | hl
    · exact a7 hl.symm
    · have := (World.ownsRow.lt h8 g hk).2; omega
  · obtain rfl : g = k := by simpa [Value.ownBlock] using hk
    exact ⟨hgn bf (by simp) l3, hgn nb (by simp) l1, hgn vb (by simp) l2, hgn cb (by simp) l4, hgn kb (by simp) l5, hgn ob (by simp) l6⟩
  · exact (hg2.block k (Nat.lt_of_lt_of_le hk hg.size) (fun e => h1 (Option.some.inj e))).trans (hg.block k hk (fun e => h4 e.symm))
  · obtain rfl : g = k := by simpa [Value.ownBlock] using hk
    rcases hl with hl | hl
    · exact .inl hl.symm
    · exact .inr hl
/-- The last tile is popped. -/
theorem SubS.popped {w : World} {B bf nb vb cb kb ob n f bv yv l bs} {x : UInt8} (h : SubS w B bf nb vb cb kb ob n f bv yv l (bs ++ [x])) (S : Six bf nb vb cb kb ob) :
    ∃ g cap, bv = .slice (some ⟨g, 0, none⟩) (bs.length + 1) cap ∧ bs.length + 1 ≤ cap ∧ SubS (w.setCell ⟨bf, 0, none⟩ (.slice (some ⟨g, 0, none⟩) bs.length cap)) B bf nb vb cb kb ob n f (.slice (some ⟨g, 0, none⟩) bs.length cap) yv l bs ∧
      FrS w (w.setCell ⟨bf, 0, none⟩ (.slice (some ⟨g, 0, none⟩) bs.length cap)) bf cb ob bv (.slice (some ⟨g, 0, none⟩) bs.length cap) yv yv := by
  obtain ⟨h1, h2, h3, h4, h5, h6, h7, h8, h9, h10⟩ := h
  have h7' := h7
  unfold OwnB at h7'
  rw [List.length_append, List.length_singleton, Lib.byteCells_append] at h7'
  obtain ⟨g, cap, rfl⟩ : ∃ g cap, bv = .slice (some ⟨g, 0, none⟩) (bs.length + 1) cap := by
    rcases h7'.2 with ⟨_, h0⟩ | ⟨g, cap, cur, hv, _⟩
    · omega
    · exact ⟨g, cap, hv⟩
  have hle : bs.length + 1 ≤ cap := by
    obtain ⟨a, c, e, hc, -⟩ := h7.shape
    injection e with e1 e2 e3
    simp at hc; omega
  have hpop : OwnB w B (.slice (some ⟨g, 0, none⟩) bs.length cap) bs := ownsRow_pop (by rw [Lib.byteCells_length]; omega) h7'
  have hg2 := grown_setCell w bf 0 (.slice (some ⟨g, 0, none⟩) bs.length cap)
  have other : ∀ k, k ≠ bf → k < w.heap.size → (w.setCell ⟨bf, 0, none⟩ (.slice (some ⟨g, 0, none⟩) bs.length cap)).heap[k]? = w.heap[k]? := fun k hk hl => hg2.block k hl (fun e => hk (Option.some.inj e))
  have h10' := h10 g rfl
  refine ⟨g, cap, rfl, hle, ⟨(other _ S.ab.symm (lt_of_heap h1)).trans h1, (other _ S.ac.symm (lt_of_heap h2)).trans h2, src_set (i := 0) h3, (other _ S.ad.symm (lt_of_heap h4)).trans h4, (other _ S.ae.symm (lt_of_heap h5)).trans h5, (other _ S.af.symm (lt_of_heap h6)).trans h6,
    World.ownsRow.kept hpop hg2 (.inr fun e => h10'.1 (Option.some.inj e)), World.ownsRow.kept h8 hg2 ?_, fun k hk => ?_, fun k hk => ?_⟩, ⟨rfl, rfl, rfl, by simp [World.setCell], fun k hk h1 _ _ _ _ => other k h1 hk, fun k hk => .inl hk, fun _ h => .inl h⟩⟩
  · cases ho : yv.ownBlock with
    | none => exact .inl rfl
    | some k => exact .inr fun e => (h9 k ho).1 (Option.some.inj e)
  · exact h9 k hk
  · exact h10 k hk
/-- append(buffer, c) at a step of a region that draws its order, with where the new slice lies. -/
theorem step_byte_at {ops : Array Oper} {o : Oper} {a : Act} {K : Act → World → Prop} {Q : Exit → Act → World → Prop} {E : Prop} {w : World} (hgd : o.guard = none) (s x : Operand)
    (ho : o.op = .call { callee := .builtin .append, args := #[s, x], argTypes := #[30, 30] })
    (B : Nat) (v : Value) (l : List UInt8) (hs : a.eval s = v) (hown : OwnB w B v l) (c : UInt8) (hx : a.eval x = .slice (some ⟨w.heap.size, 0, none⟩) 1 1)
    (hn : l.length ≤ 4398046511104) (hB : B ≤ w.heap.size)
    (h : ∀ g cap w', OwnB w' B (.slice (some ⟨g, 0, none⟩) (l.length + 1) cap) (l ++ [c]) → (∀ w0, Below B w0 w → Below B w0 w') → w.grownBy w' v.ownBlock → (some g = v.ownBlock ∨ w.heap.size ≤ g) → K (a.put o.dst (.slice (some ⟨g, 0, none⟩) (l.length + 1) cap)) w') :
    if Region.wanted o (yielded ops a.tmps) = true then Oper.wp Try.prog o a (w.alloc (.cells #[.int .u8 c.toNat] 5)) K Q else E := by
  obtain ⟨i, hi, hz0, hz1, hz2⟩ := info_parts infoU8
  refine step_append_lies _ hgd s x 30 ho B 5 i (.int .u8 0) 1 1 Try.underlying30 hi hz0 hz1 hz2 rfl (by decide) v l.length (Lib.byteCells l) hs (World.ownsRow.alloc hown _) ⟨w.heap.size, 0, none⟩ 1 1 [.int .u8 c.toNat] hx rfl (cell_one_new _ _ _) ?_ (by decide) (by unfold maxLen; omega) (by omega) (by simp; omega) _ rfl ?_
  · intro u hu; simp at hu; subst hu; rfl
  · intro g cap w' hown' hgrow hloc _
    have hg2 : w.grownBy w' v.ownBlock := ⟨hgrow.os, hgrow.tape, hgrow.output, Nat.le_trans (by simp) hgrow.size, fun k hk hne => (hgrow.block k (by simp; omega) hne).trans (Below.heap_alloc w _ k hk)⟩
    refine h g cap w' ?_ (fun w0 hb => hb.grown hg2 hB (fun k hk => (World.ownsRow.lt hown k hk).1)) hg2 ?_
    · unfold OwnB
      rw [List.length_append, Lib.byteCells_append]
      exact hown'
    · rcases hloc with h1 | h1
      · exact .inl h1.symm
      · right; rw [h1]; simp
attribute [local irreducible] Calls
set_option maxHeartbeats 2000000 in
theorem visit_any (B ob : Nat) (yv : Value) (l : List ByteArray) (s : ByteArray) (w : World) (ho : w.heap[ob]? = some (.cells #[yv] 22 (0, 0))) (hown : OwnS w B yv l) (hl : l.length ≤ 4398046511104) (hB : B ≤ w.heap.size) (hne : yv.ownBlock ≠ some ob) :
    Calls Try.prog 45 #[.string s, .pointer (some ⟨ob, 0, none⟩)] w fun e w' => e = .returned (.bool true) ∧
      ∃ g n' c w2, w' = w2.setCell ⟨ob, 0, none⟩ (.slice (some ⟨g, 0, none⟩) n' c) ∧ OwnS w2 B (.slice (some ⟨g, 0, none⟩) n' c) (l ++ [s]) ∧ w.grownBy w2 yv.ownBlock ∧ (some g = yv.ownBlock ∨ w.heap.size ≤ g) := by
  obtain ⟨c1, z1⟩ := src_cell (i := 0) (v := yv) ho rfl
  have Ho := Lib.hid ho
  have Hne := Lib.hid hne
  clear ho hne
  go_enter Try.func45, Try.ntmps45
  go_wp2_with (at_builtin; refine app_str_at rfl _ _ rfl B yv l rfl hown s rfl hl hB ?_; intro g c w1 hown1 hbel1 hgr1 hloc1; have hy1 := Lib.hid ((hgr1.block ob (lt_of_heap Ho.out) (fun e => Hne.out e.symm)).trans Ho.out); obtain ⟨d2, y2⟩ := src_cell (i := 0) (v := yv) hy1.out rfl)
  go_ret
  exact ⟨ret_bool rfl, _, _, _, _, rfl, hown1, hgr1, hloc1⟩
theorem flat_range {α : Type} (F : Nat → List α) (j : Nat) : (List.range (j + 1)).flatMap F = (List.range j).flatMap F ++ F j := by
  rw [List.range_succ, List.flatMap_append]; simp
theorem flat_le {α : Type} (F : Nat → List α) (a d : Nat) : ((List.range a).flatMap F).length ≤ ((List.range (a + d)).flatMap F).length := by
  induction d with
  | zero => exact Nat.le_refl _
  | succ d ih => rw [← Nat.add_assoc, flat_range, List.length_append]; omega
/-- What place p adds. -/
def subAt (m : Nat) (f : Nat → Int) (bs : List UInt8) (p : Nat) : List ByteArray := if f p = 0 then [] else (subsC m (upd f p (f p - 1)) p).map fun x => mkT ((bs ++ [tileB p]) ++ x)
theorem subs_at (m : Nat) (f : Nat → Int) (bs : List UInt8) (k : Nat) : (subsC (m + 1) f k).map (fun x => mkT (bs ++ x)) = (List.range (27 - k)).flatMap fun j => subAt m f bs (k + j) := by
  rw [subsC, List.map_flatMap]
  congr 1
  funext j
  unfold subAt
  split
  · rfl
  · rw [List.map_map]; simp [Function.comp_def]
set_option maxHeartbeats 8000000 in
set_option maxRecDepth 20000 in
theorem subs_any (B bf nb vb cb kb ob n : Nat) (S : Six bf nb vb cb kb ob) (hB : B ≤ bf ∧ B ≤ nb ∧ B ≤ vb ∧ B ≤ cb ∧ B ≤ kb ∧ B ≤ ob) (hn7 : n ≤ 7) :
    ∀ (m k : Nat) (z : Int) (f : Nat → Int) (bv yv : Value) (l : List ByteArray) (bs : List UInt8) (w : World), bs.length + m = n → z = (k : Int) → k ≤ 27 → (∀ p, 0 ≤ f p ∧ f p ≤ 2097152) → l.length + (subsC m f k).length ≤ 4398046511104 → SubS w B bf nb vb cb kb ob n f bv yv l bs →
    Calls Try.prog 78 #[.int .i64 z, .pointer (some ⟨bf, 0, none⟩), .pointer (some ⟨nb, 0, none⟩), .pointer (some ⟨vb, 0, none⟩), .pointer (some ⟨cb, 0, none⟩), .pointer (some ⟨kb, 0, none⟩)] w fun e w' => e = .returned (.bool true) ∧
      ∃ bv' yv', SubS w' B bf nb vb cb kb ob n f bv' yv' (l ++ (subsC m f k).map fun x => mkT (bs ++ x)) bs ∧ FrS w w' bf cb ob bv bv' yv yv' := by
  have HS := Lib.hid S
  have HBs := Lib.hid hB
  have hob := hB.2.2.2.2.2
  clear S hB
  intro m
  induction m with
  | zero =>
    intro k z f bv yv l bs w hm hz hk hf hln hW
    subst hz
    obtain ⟨c1, z1⟩ := src_cell (i := 0) (v := .int .i64 n) hW.num rfl
    obtain ⟨c2, z2⟩ := src_cell (i := 0) (v := visF ob) hW.vis rfl
    obtain ⟨ba, bc, rfl, hb1, hb2⟩ := hW.bytes.shape
    obtain ⟨c3, z3⟩ := src_cell (i := 0) (v := .slice ba bs.length bc) hW.buf rfl
    unfold visF at c2
    have hcv := hW.bytes.conv
    have hBw : B ≤ w.heap.size := by have := lt_of_heap hW.out; omega
    have hl2 : l.length ≤ 4398046511104 := by omega
    have hq : ((bs.length : Int) == (n : Int)) = true := by rw [show bs.length = n by omega]; simp
    have HW := Lib.hid hW
    clear hW hln hf hm
    go_enter Try.func78, Try.ntmps78
    go_wp2_with fail
    refine (visit_any B ob yv l ⟨bs.toArray⟩ w HW.out.out HW.out.own hl2 hBw (fun e => (HW.out.apart ob e).2.2.2.2.2.1 rfl)).mono ?_
    rintro e w1 ⟨rfl, g, n', c, w2, rfl, hown, hgr, hloc⟩
    obtain ⟨hw1, hfr⟩ := HW.out.visited HS.out hown hgr hloc
    have HW1 := Lib.hid hw1
    have HF1 := Lib.hid hfr
    clear hw1 hfr hown hgr hloc
    go_wp2
    go_ret
    refine ⟨ret_bool rfl, _, _, ?_, HF1.out⟩
    have := HW1.out
    simpa [subsC, mkT] using this
  | succ m ih =>
    intro k z f bv yv l bs w hm hz hk hf hln hW
    subst hz
    obtain ⟨c1, z1⟩ := src_cell (i := 0) (v := .int .i64 n) hW.num rfl
    obtain ⟨ba, bc, rfl, hb1, hb2⟩ := hW.bytes.shape
    obtain ⟨c3, z3⟩ := src_cell (i := 0) (v := .slice ba bs.length bc) hW.buf rfl
    have hq : ((bs.length : Int) == (n : Int)) = false := by rw [beq_eq_false_iff_ne]; omega
    have hlf : l.length + ((List.range (27 - k)).flatMap fun j => subAt m f bs (k + j)).length ≤ 4398046511104 := by rw [← subs_at, List.length_map]; exact hln
    have HW := Lib.hid hW
    have Hf := Lib.hid hf
    have Hlf := Lib.hid hlf
    have Ih := Lib.hid ih
    have Hm := Lib.hid hm
    have Hk := Lib.hid hk
    clear hW hf hlf hln ih hm hk
    go_enter Try.func78, Try.ntmps78
    go_wp2
    go_loopw [0] (fun i0 wr => ∃ p : Nat, k ≤ p ∧ p ≤ 27 ∧ i0 = .int .i64 (p : Int) ∧ ∃ bv2 yv2, SubS wr B bf nb vb cb kb ob n f bv2 yv2 (l ++ (List.range (p - k)).flatMap fun j => subAt m f bs (k + j)) bs ∧ FrS w wr bf cb ob (.slice ba bs.length bc) bv2 yv yv2) (fun i0 _ => 27 - (intOf i0).toNat)
    case atStart => exact ⟨k, Nat.le_refl _, Hk.out, rfl, _, _, by rw [Nat.sub_self]; simpa using HW.out, FrS.refl _ _ _ _ _ _⟩
    case round =>
      clear c1 z1 c3 z3 hq HW
      obtain ⟨p, hkp, hp27, rfl, bv2, yv2, hWr, hFr⟩ := hrel
      have HWr := Lib.hid hWr
      have HFr := Lib.hid hFr
      clear hWr hFr
      by_cases hlt : p < 27
      · obtain ⟨hf1, hf2⟩ := Hf.out p
        have hcellp : wr.cell? ⟨cb, p, none⟩ = some (.int .i64 (f p)) := by rw [cell_of_row _ _ p _ _ _ HWr.out.cnt, cs_get _ p hlt]
        have hfrp : wr.frozen? ⟨cb, p, none⟩ = false := frozen_of_row _ _ p _ _ HWr.out.cnt
        have hpI : (p : Int) < 27 := by omega
        have hp0 : (0 : Int) ≤ (p : Int) := by omega
        have hfl : (List.range (p + 1 - k)).flatMap (fun j => subAt m f bs (k + j)) = ((List.range (p - k)).flatMap fun j => subAt m f bs (k + j)) ++ subAt m f bs p := by
          rw [show p + 1 - k = (p - k) + 1 by omega, flat_range, show k + (p - k) = p by omega]
        have Hfl := Lib.hid hfl
        clear hfl
        by_cases hz : f p = 0
        · have hzq : (f p == 0) = true := by rw [hz]; rfl
          have Hz := Lib.hid hz
          clear hz
          go_wp2
          go_roundw
          case rel =>
            have e : subAt m f bs p = [] := if_pos Hz.out
            exact ⟨p + 1, by omega, by omega, by go_num, bv2, yv2, by rw [Hfl.out, e, List.append_nil]; exact HWr.out, HFr.out⟩
          case measure => simp [intOf]; omega
        · have hzq : (f p == 0) = false := by rw [beq_eq_false_iff_ne]; exact hz
          have Hz := Lib.hid hz
          obtain ⟨va, vc, rfl, hv1, hv2⟩ := HWr.out.bytes.shape
          have HW2 := Lib.hid (HWr.out.count HS.out (p := p) hlt (f p - 1))
          have HF2 := Lib.hid (HFr.out.trans (FrS.set cb p (.int .i64 (f p - 1)) (.inr (.inl rfl))))
          obtain ⟨W2, hW2⟩ : ∃ W2, W2 = wr.setCell ⟨cb, p, none⟩ (.int .i64 (f p - 1)) := ⟨_, rfl⟩
          obtain ⟨L2, hL2⟩ : ∃ L2, L2 = (l ++ (List.range (p - k)).flatMap fun j => subAt m f bs (k + j)) := ⟨_, rfl⟩
          have HL2 := Lib.hid hL2
          have hlj : L2.length + (subsC m (upd f p (f p - 1)) p).length ≤ 4398046511104 := by
            have h1 := Hlf.out
            have h2 := flat_le (fun j => subAt m f bs (k + j)) (p + 1 - k) (27 - (p + 1))
            rw [show p + 1 - k + (27 - (p + 1)) = 27 - k by omega, Hfl.out, List.length_append] at h2
            have h3 : (subAt m f bs p).length = (subsC m (upd f p (f p - 1)) p).length := by unfold subAt; rw [if_neg Hz.out, List.length_map]
            rw [hL2, List.length_append]; omega
          rw [← hL2, ← hW2] at HW2
          rw [← hW2] at HF2
          have Hlj := Lib.hid hlj
          obtain ⟨e3, y3⟩ := src_cell (i := 0) (v := .slice va bs.length vc) HW2.out.buf rfl
          have e5 := cell_alloc (.cells #[.int .u8 (tileB p).toNat] 5) e3
          have hBW : B ≤ W2.heap.size := by have := lt_of_heap HW2.out.out; omega
          have hbl : bs.length ≤ 4398046511104 := by have := Hm.out; omega
          clear hz hL2 hlj hfrp
          have hfrp : wr.frozen? ⟨cb, p, none⟩ = false := frozen_of_row _ _ p _ _ HWr.out.cnt
          go_upto_region 7 with fail
          rw [← hW2]
          clear hW2
          go_cut [0] (fun s0 wx => s0 = .int .i64 (p : Int) ∧ ∃ g3 n3 c3 w3, wx = w3.setCell ⟨bf, 0, none⟩ (.slice (some ⟨g3, 0, none⟩) n3 c3) ∧ OwnB w3 B (.slice (some ⟨g3, 0, none⟩) n3 c3) (bs ++ [tileB p]) ∧ W2.grownBy w3 (Value.slice va bs.length vc).ownBlock ∧ (some g3 = (Value.slice va bs.length vc).ownBlock ∨ W2.heap.size ≤ g3))
          case first =>
            refine wp_region_held_drew (S := (fun _ => True)) (by kernel_rfl) ?_ (fun hHeld => ?_)
            · trivial
            refine wpAnyH_take (i := 1) (v := ?v1) rfl (by kernel_rfl) (by kernel_rfl) (by kernel_rfl) (fun _ _ _ h => h) (Or.inl ⟨by kernel_rfl, ?hy1⟩) (by assumption) ?_
            case hy1 => (intro w9 hS9; (try dsimp only at hS9); go_simp; (try with_reducible rfl))
            try simp only [Act.put, List.getElem_toArray, List.getElem_cons_succ, List.getElem_cons_zero, List.setIfInBounds_toArray, List.set_cons_zero, List.set_cons_succ]
            refine wpAnyH_ready (rs := [0, 2]) (by kernel_rfl) (by simp) ?_
            refine AllReadyH.cons rfl (fun K9 hK9 => ?_) (AllReadyH.cons rfl (fun K9 hK9 => ?_) (AllReadyH.nil))
            · rw [if_pos (by rfl)]
              go_simp
              refine hK9.out _ _ (trivial) (fun hHeld2 => ?_)
              clear hK9 K9
              try simp only [Act.put, List.getElem_toArray, List.getElem_cons_succ, List.getElem_cons_zero, List.setIfInBounds_toArray, List.set_cons_zero, List.set_cons_succ]
              refine wpAnyH_ready (rs := [2]) (by kernel_rfl) (by simp) ?_
              refine AllReadyH.cons rfl (fun K9 hK9 => ?_) AllReadyH.nil
              rw [if_pos (by rfl)]
              go_wp2_with (go_at_call 79; refine (tileAt_any _ hlt _).mono ?_; rintro e w9 ⟨rfl, rfl⟩)
              refine hK9.out _ _ (trivial) (fun hHeld2 => ?_)
              clear hK9 K9
              try simp only [Act.put, List.getElem_toArray, List.getElem_cons_succ, List.getElem_cons_zero, List.setIfInBounds_toArray, List.set_cons_zero, List.set_cons_succ]
              refine wpAnyH_ready (rs := [3]) (by kernel_rfl) (by simp) ?_
              refine AllReadyH.cons rfl (fun K9 hK9 => ?_) AllReadyH.nil
              rw [if_pos (by rfl)]
              go_simp
              refine hK9.out _ _ (trivial) (fun hHeld3 => ?_)
              clear hK9 K9
              try simp only [Act.put, List.getElem_toArray, List.getElem_cons_succ, List.getElem_cons_zero, List.setIfInBounds_toArray, List.set_cons_zero, List.set_cons_succ]
              refine wpAnyH_ready (rs := [4]) (by kernel_rfl) (by simp) ?_
              refine AllReadyH.cons rfl (fun K9 hK9 => ?_) AllReadyH.nil
              refine step_byte_at (w := W2.drew) ?_ (.tmp 30) (.tmp 33) ?_ B _ bs ?_ HW2.out.bytes (tileB p) ?_ hbl hBW ?_
              rfl; rfl; rfl; rfl; intro gg cap w3 hown4 hbel4 hgr hloc
              have hcb3 := (hgr.block bf (lt_of_heap HW2.out.buf) (fun e => (HW2.out.apartB bf e.symm).1 rfl)).trans HW2.out.buf
              obtain ⟨e4, y4⟩ := src_cell (i := 0) (v := .slice va bs.length vc) hcb3 rfl
              refine hK9.out _ _ (trivial) (fun hHeld4 => ?_)
              clear hK9 K9
              try simp only [Act.put, List.getElem_toArray, List.getElem_cons_succ, List.getElem_cons_zero, List.setIfInBounds_toArray, List.set_cons_zero, List.set_cons_succ]
              refine wpAnyH_ready (rs := [5]) (by kernel_rfl) (by simp) ?_
              refine AllReadyH.cons rfl (fun K9 hK9 => ?_) AllReadyH.nil
              rw [if_pos (by rfl)]
              go_simp
              refine hK9.out _ _ (trivial) (fun hHeld5 => ?_)
              clear hK9 K9
              try simp only [Act.put, List.getElem_toArray, List.getElem_cons_succ, List.getElem_cons_zero, List.setIfInBounds_toArray, List.set_cons_zero, List.set_cons_succ]
              refine wpAnyH_done (by kernel_rfl) ?_ _
              go_wp2_with fail
              go_meet
              exact ⟨rfl, gg, _, cap, w3, rfl, hown4, ⟨hgr.os, hgr.tape, hgr.output, hgr.size, hgr.block⟩, hloc⟩
            · rw [if_pos (by rfl)]
              go_wp2_with (go_at_call 79; refine (tileAt_any _ hlt _).mono ?_; rintro e w9 ⟨rfl, rfl⟩)
              refine hK9.out _ _ (trivial) (fun hHeld2 => ?_)
              clear hK9 K9
              try simp only [Act.put, List.getElem_toArray, List.getElem_cons_succ, List.getElem_cons_zero, List.setIfInBounds_toArray, List.set_cons_zero, List.set_cons_succ]
              refine wpAnyH_ready (rs := [0, 3]) (by kernel_rfl) (by simp) ?_
              refine AllReadyH.cons rfl (fun K9 hK9 => ?_) (AllReadyH.cons rfl (fun K9 hK9 => ?_) (AllReadyH.nil))
              · rw [if_pos (by rfl)]
                go_simp
                refine hK9.out _ _ (trivial) (fun hHeld3 => ?_)
                clear hK9 K9
                try simp only [Act.put, List.getElem_toArray, List.getElem_cons_succ, List.getElem_cons_zero, List.setIfInBounds_toArray, List.set_cons_zero, List.set_cons_succ]
                refine wpAnyH_ready (rs := [3]) (by kernel_rfl) (by simp) ?_
                refine AllReadyH.cons rfl (fun K9 hK9 => ?_) AllReadyH.nil
                rw [if_pos (by rfl)]
                go_simp
                refine hK9.out _ _ (trivial) (fun hHeld3 => ?_)
                clear hK9 K9
                try simp only [Act.put, List.getElem_toArray, List.getElem_cons_succ, List.getElem_cons_zero, List.setIfInBounds_toArray, List.set_cons_zero, List.set_cons_succ]
                refine wpAnyH_ready (rs := [4]) (by kernel_rfl) (by simp) ?_
                refine AllReadyH.cons rfl (fun K9 hK9 => ?_) AllReadyH.nil
                refine step_byte_at (w := W2.drew) ?_ (.tmp 30) (.tmp 33) ?_ B _ bs ?_ HW2.out.bytes (tileB p) ?_ hbl hBW ?_
                rfl; rfl; rfl; rfl; intro gg cap w3 hown4 hbel4 hgr hloc
                have hcb3 := (hgr.block bf (lt_of_heap HW2.out.buf) (fun e => (HW2.out.apartB bf e.symm).1 rfl)).trans HW2.out.buf
                obtain ⟨e4, y4⟩ := src_cell (i := 0) (v := .slice va bs.length vc) hcb3 rfl
                refine hK9.out _ _ (trivial) (fun hHeld4 => ?_)
                clear hK9 K9
                try simp only [Act.put, List.getElem_toArray, List.getElem_cons_succ, List.getElem_cons_zero, List.setIfInBounds_toArray, List.set_cons_zero, List.set_cons_succ]
                refine wpAnyH_ready (rs := [5]) (by kernel_rfl) (by simp) ?_
                refine AllReadyH.cons rfl (fun K9 hK9 => ?_) AllReadyH.nil
                rw [if_pos (by rfl)]
                go_simp
                refine hK9.out _ _ (trivial) (fun hHeld5 => ?_)
                clear hK9 K9
                try simp only [Act.put, List.getElem_toArray, List.getElem_cons_succ, List.getElem_cons_zero, List.setIfInBounds_toArray, List.set_cons_zero, List.set_cons_succ]
                refine wpAnyH_done (by kernel_rfl) ?_ _
                go_wp2_with fail
                go_meet
                exact ⟨rfl, gg, _, cap, w3, rfl, hown4, ⟨hgr.os, hgr.tape, hgr.output, hgr.size, hgr.block⟩, hloc⟩
              · rw [if_pos (by rfl)]
                go_simp
                refine hK9.out _ _ (trivial) (fun hHeld3 => ?_)
                clear hK9 K9
                try simp only [Act.put, List.getElem_toArray, List.getElem_cons_succ, List.getElem_cons_zero, List.setIfInBounds_toArray, List.set_cons_zero, List.set_cons_succ]
                refine wpAnyH_ready (rs := [0]) (by kernel_rfl) (by simp) ?_
                refine AllReadyH.cons rfl (fun K9 hK9 => ?_) AllReadyH.nil
                rw [if_pos (by rfl)]
                go_simp
                refine hK9.out _ _ (trivial) (fun hHeld3 => ?_)
                clear hK9 K9
                try simp only [Act.put, List.getElem_toArray, List.getElem_cons_succ, List.getElem_cons_zero, List.setIfInBounds_toArray, List.set_cons_zero, List.set_cons_succ]
                refine wpAnyH_ready (rs := [4]) (by kernel_rfl) (by simp) ?_
                refine AllReadyH.cons rfl (fun K9 hK9 => ?_) AllReadyH.nil
                refine step_byte_at (w := W2.drew) ?_ (.tmp 30) (.tmp 33) ?_ B _ bs ?_ HW2.out.bytes (tileB p) ?_ hbl hBW ?_
                rfl; rfl; rfl; rfl; intro gg cap w3 hown4 hbel4 hgr hloc
                have hcb3 := (hgr.block bf (lt_of_heap HW2.out.buf) (fun e => (HW2.out.apartB bf e.symm).1 rfl)).trans HW2.out.buf
                obtain ⟨e4, y4⟩ := src_cell (i := 0) (v := .slice va bs.length vc) hcb3 rfl
                refine hK9.out _ _ (trivial) (fun hHeld4 => ?_)
                clear hK9 K9
                try simp only [Act.put, List.getElem_toArray, List.getElem_cons_succ, List.getElem_cons_zero, List.setIfInBounds_toArray, List.set_cons_zero, List.set_cons_succ]
                refine wpAnyH_ready (rs := [5]) (by kernel_rfl) (by simp) ?_
                refine AllReadyH.cons rfl (fun K9 hK9 => ?_) AllReadyH.nil
                rw [if_pos (by rfl)]
                go_simp
                refine hK9.out _ _ (trivial) (fun hHeld5 => ?_)
                clear hK9 K9
                try simp only [Act.put, List.getElem_toArray, List.getElem_cons_succ, List.getElem_cons_zero, List.setIfInBounds_toArray, List.set_cons_zero, List.set_cons_succ]
                refine wpAnyH_done (by kernel_rfl) ?_ _
                go_wp2_with fail
                go_meet
                exact ⟨rfl, gg, _, cap, w3, rfl, hown4, ⟨hgr.os, hgr.tape, hgr.output, hgr.size, hgr.block⟩, hloc⟩
          case rest =>
            obtain ⟨rfl, g3, n3, c3, w3, rfl, hown4, hgr, hloc⟩ := hcut
            obtain ⟨hW3, hfr3⟩ := HW2.out.pushed HS.out hown4 hgr hloc
            have HF3 := Lib.hid hfr3
            have HW3 := Lib.hid hW3
            obtain ⟨d5, y5⟩ := src_cell (i := 0) (v := subF bf nb vb cb kb) HW3.out.walk rfl
            unfold subF at d5
            clear hW3 hfr3 hown4 hgr hloc e3 e5 y3
            go_wp2_with fail
            refine (Ih.out p _ (upd f p (f p - 1)) _ yv2 L2 (bs ++ [tileB p]) _ (by have := Hm.out; simp; omega) rfl (by omega) (fun q => by have h1 := Hf.out q; have h2 := Hf.out p; have h3 := Hz.out; unfold upd; split <;> omega) Hlj.out HW3.out).mono ?_
            rintro e w4 ⟨rfl, bv4, yv4, hW4, hFr4⟩
            obtain ⟨g4, cap4, rfl, hle4, hW5, hFr5⟩ := hW4.popped HS.out
            obtain ⟨k0, k1⟩ := src_cell (i := 0) (v := .slice (some ⟨g4, 0, none⟩) (bs.length + 1) cap4) hW4.buf rfl
            have hcell4 : (w4.setCell ⟨bf, 0, none⟩ (.slice (some ⟨g4, 0, none⟩) bs.length cap4)).cell? ⟨cb, p, none⟩ = some (.int .i64 (f p - 1)) := by rw [cell_of_row _ _ p _ _ _ hW5.cnt, cs_get _ p hlt]; simp [upd]
            have hfr4 : (w4.setCell ⟨bf, 0, none⟩ (.slice (some ⟨g4, 0, none⟩) bs.length cap4)).frozen? ⟨cb, p, none⟩ = false := frozen_of_row _ _ p _ _ hW5.cnt
            have HF5 := Lib.hid (((HF2.out.trans HF3.out).trans hFr4).trans (hFr5.trans (FrS.set cb p (.int .i64 (f p)) (.inr (.inl rfl)))))
            have hback : SubS ((w4.setCell ⟨bf, 0, none⟩ (.slice (some ⟨g4, 0, none⟩) bs.length cap4)).setCell ⟨cb, p, none⟩ (.int .i64 (f p))) B bf nb vb cb kb ob n f (.slice (some ⟨g4, 0, none⟩) bs.length cap4) yv4 (l ++ (List.range (p + 1 - k)).flatMap fun j => subAt m f bs (k + j)) bs := by
              have h1 := hW5.count HS.out (p := p) hlt (f p)
              rw [upd_back] at h1
              have e2 : subAt m f bs p = (subsC m (upd f p (f p - 1)) p).map fun x => mkT ((bs ++ [tileB p]) ++ x) := if_neg Hz.out
              rw [Hfl.out, ← List.append_assoc, ← HL2.out, e2]
              exact h1
            have HK := Lib.hid hback
            have hcap4 : (bs.length : Int) ≤ (cap4 : Int) := by omega
            clear hback hW4 hFr4 hW5 hFr5 d5 y5 HW3 HF3 HW2 HF2 hcellp hfrp hzq
            go_wp2
            go_roundw
            case rel => exact ⟨p + 1, by omega, by omega, by go_num, _, _, HK.out, HF5.out⟩
            case measure => simp [intOf]; omega
      · obtain rfl : p = 27 := by omega
        go_wp2
        go_ret
        refine ⟨ret_bool rfl, bv2, yv2, ?_, HFr.out⟩
        rw [subs_at]
        exact HWr.out
end Go.Proofs.Ythpjinfkagllfaa
