/- A tile set that is being read: its box, its two slices of the call's own. No condition. -/
import Derived.Test.YtinmmbnlflmobaaGreatDoorRp
import Derived.Test.YtinmmbnlflmobaaGreatDoorAt

namespace Go.Proofs.YtinmmbnlflmobaaGreatDoor
open Go.RowKit

/-- A slice of int64 of the call's own. -/
def OwnI (w : World) (B : Nat) (v : Value) (l : List Int) : Prop := w.ownsRow B 2 1 v l.length (l.map (Value.int .i64))
theorem OwnI.below {w w' : World} {B v l} (h : OwnI w B v l) (hb : Below w.heap.size w w') : OwnI w' B v l :=
  World.ownsRow.kept h ⟨hb.os, hb.tape, hb.output, hb.size, fun k hk _ => hb.block k hk⟩ (by cases v.ownBlock <;> simp) (row := none)
theorem OwnI.shape {w : World} {B v l} (h : OwnI w B v l) : ∃ a cap, v = .slice a l.length cap ∧ l.length ≤ cap ∧ cap ≤ maxLen := by
  rcases h.2 with ⟨hv, h0⟩ | ⟨g, cap, cur, hv, _, _, h1, h2, _⟩
  · exact ⟨none, 0, by rw [hv, h0], by omega, by unfold maxLen; omega⟩
  · exact ⟨_, cap, hv, h1, h2⟩
theorem OwnI.ints {w : World} {B v l} (h : OwnI w B v l) (hs : ∀ s ∈ l, I64 s) : IntsW w B w.heap.size v l := ⟨own_SlW h, hs⟩
theorem OwnI.nil (w : World) (B : Nat) : OwnI w B (.slice none 0 0) [] := ⟨rfl, .inl ⟨rfl, rfl⟩⟩

/-- append(out, n) for int64: one arm of a walk; where the new slice lies. -/
theorem app_int {ops : Array Oper} {rest : List Oper} {o : Oper} {a : Act} {Q : Exit → Act → World → Prop} {w : World} (hgd : o.guard = none) (s x : Operand)
    (ho : o.op = .call { callee := .builtin .append, args := #[s, x], argTypes := #[24, 24] })
    (B : Nat) (v : Value) (l : List Int) (hs : a.eval s = v) (hown : OwnI w B v l) (c : Int) (H : Nat) (hH : w.heap.size = H) (hx : a.eval x = .slice (some ⟨H, 0, none⟩) 1 1)
    (hn : l.length ≤ 4398046511104) (hB : B ≤ w.heap.size)
    (h : ∀ g cap w', OwnI w' B (.slice (some ⟨g, 0, none⟩) (l.length + 1) cap) (l ++ [c]) → w.grownBy w' v.ownBlock → (some g = v.ownBlock ∨ w.heap.size ≤ g) → wpList Tryz.prog ops Q rest (a.put o.dst (.slice (some ⟨g, 0, none⟩) (l.length + 1) cap)) w') :
    wpList Tryz.prog ops Q (o :: rest) a (w.alloc (.cells #[.int .i64 c] 2)) := by
  subst hH
  obtain ⟨i, hi, hz0, hz1, hz2⟩ := info_parts infoI64
  refine wpList_append_own_at _ hgd s x 24 ho B 2 i (.int .i64 0) 1 8 Tryz.underlying24 hi hz0 hz1 hz2 rfl (by decide) v l.length (l.map (Value.int .i64)) hs (World.ownsRow.alloc hown _) ⟨w.heap.size, 0, none⟩ 1 1 [.int .i64 c] hx rfl (cell_one_new _ _ _) ?_ (by unfold maxLen; omega) (by omega) (by simp; omega) ?_
  · intro u hu; simp at hu; subst hu; rfl
  · intro v' w' hown' hgrow _ hloc
    obtain ⟨g, cap, rfl⟩ : ∃ g cap, v' = .slice (some ⟨g, 0, none⟩) (l.length + 1) cap := by
      rcases hown'.2 with ⟨_, h0⟩ | ⟨g, cap, cur, hv, _⟩
      · omega
      · exact ⟨g, cap, hv⟩
    have hg2 : w.grownBy w' v.ownBlock := ⟨hgrow.os, hgrow.tape, hgrow.output, Nat.le_trans (by simp) hgrow.size, fun k hk hne => (hgrow.block k (by simp; omega) hne).trans (Below.heap_alloc w _ k hk)⟩
    refine h g cap w' ?_ hg2 ?_
    · unfold OwnI
      rw [List.length_append, List.map_append]
      exact hown'
    · rcases hloc with h1 | h1
      · exact .inl h1
      · right
        have e : g = (w.alloc (.cells #[.int .i64 c] 2)).heap.size := Option.some.inj h1
        rw [e]; simp

/-- The box of a tile set that is being read: block g; its slices of the call's own lie behind it, each in a block of its own. -/
structure OwnT (w : World) (g : Nat) (x : TileD) (v1 v2 : Value) : Prop where
  box : w.heap[g]? = some (.cells #[.string x.letters, v1, v2, .int .i64 x.blanks] 26 (0, 0))
  o1 : OwnI w (g + 1) v1 x.values
  o2 : OwnI w (g + 1) v2 x.counts
  ne : v1.ownBlock = none ∨ v1.ownBlock ≠ v2.ownBlock
  ls : x.letters.size ≤ 27
  lv : x.values.length = x.letters.size
  lc : x.counts.length = x.letters.size
  kb : I64 x.blanks
  kv : ∀ n ∈ x.values, I64 n
  kc : ∀ n ∈ x.counts, I64 n
/-- What a call that reads on may have changed. -/
structure KeepT (g : Nat) (v1 v2 : Value) (w w' : World) : Prop where
  os : w'.os = w.os
  tape : w'.tape = w.tape
  output : w'.output = w.output
  size : w.heap.size ≤ w'.heap.size
  block : ∀ k, k < w.heap.size → k ≠ g → some k ≠ v1.ownBlock → some k ≠ v2.ownBlock → w'.heap[k]? = w.heap[k]?
theorem KeepT.of_below {g : Nat} {v1 v2 : Value} {w w' : World} (h : Below w.heap.size w w') : KeepT g v1 v2 w w' := ⟨h.os, h.tape, h.output, h.size, fun k hk _ _ _ => h.block k hk⟩
theorem OwnT.lt {w : World} {g x v1 v2} (h : OwnT w g x v1 v2) : g < w.heap.size := (Array.getElem?_eq_some_iff.1 h.box).1
theorem OwnT.below {w w' : World} {g x v1 v2} (h : OwnT w g x v1 v2) (hb : Below w.heap.size w w') : OwnT w' g x v1 v2 :=
  ⟨(hb.block g h.lt).trans h.box, h.o1.below hb, h.o2.below hb, h.ne, h.ls, h.lv, h.lc, h.kb, h.kv, h.kc⟩
theorem KeepT.below {g : Nat} {v1 v2 : Value} {w w' : World} {x : TileD} (h : KeepT g v1 v2 w w') (ht : OwnT w g x v1 v2) : Below g w w' := by
  refine ⟨h.os, h.tape, h.output, h.size, fun k hk => h.block k (Nat.lt_trans hk ht.lt) (by omega) ?_ ?_⟩
  · intro e; have := (World.ownsRow.lt ht.o1 k e.symm).1; omega
  · intro e; have := (World.ownsRow.lt ht.o2 k e.symm).1; omega
end Go.Proofs.YtinmmbnlflmobaaGreatDoor
