/- Appending one string to a slice of the call's own, with where the new slice lies; readings kept beside it. Condition: Go's own bound on the bytes of a slice. -/
import Derived.Test.YtinmmbnlflmobaaGreatDoorA
import Derived.Maps.AppendAt
namespace Go.Proofs.YtinmmbnlflmobaaGreatDoor
open Go.RowKit
/-- append(out, s) for strings: one arm of a walk; the new slice lies in its own row or in a new block. -/
theorem app_str_at {ops : Array Oper} {rest : List Oper} {o : Oper} {a : Act} {Q : Exit → Act → World → Prop} {w : World} (hgd : o.guard = none) (s x : Operand)
    (ho : o.op = .call { callee := .builtin .append, args := #[s, x], argTypes := #[44, 44] })
    (B : Nat) (v : Value) (l : List ByteArray) (hs : a.eval s = v) (hown : OwnS w B v l) (c : ByteArray) (hx : a.eval x = .slice (some ⟨w.heap.size, 0, none⟩) 1 1)
    (hn : l.length ≤ 4398046511104) (hB : B ≤ w.heap.size)
    (h : ∀ g cap w', OwnS w' B (.slice (some ⟨g, 0, none⟩) (l.length + 1) cap) (l ++ [c]) → (∀ w0, Below B w0 w → Below B w0 w') → w.grownBy w' v.ownBlock → (some g = v.ownBlock ∨ w.heap.size ≤ g) → wpList Tryz.prog ops Q rest (a.put o.dst (.slice (some ⟨g, 0, none⟩) (l.length + 1) cap)) w') :
    wpList Tryz.prog ops Q (o :: rest) a (w.alloc (.cells #[.string c] 9)) := by
  obtain ⟨i, hi, hz0, hz1, hz2⟩ := info_parts infoStr
  refine wpList_append_own_at _ hgd s x 44 ho B 9 i (.string ⟨#[]⟩) 1 16 Tryz.underlying44 hi hz0 hz1 hz2 rfl (by decide) v l.length (l.map Value.string) hs (World.ownsRow.alloc hown _) ⟨w.heap.size, 0, none⟩ 1 1 [.string c] hx rfl (cell_one_new _ _ _) ?_ (by unfold maxLen; omega) (by omega) (by simp; omega) ?_
  · intro u hu; simp at hu; subst hu; rfl
  · intro v' w' hown' hgrow _ hloc
    obtain ⟨g, cap, rfl⟩ : ∃ g cap, v' = .slice (some ⟨g, 0, none⟩) (l.length + 1) cap := by
      rcases hown'.2 with ⟨_, h0⟩ | ⟨g, cap, cur, hv, _⟩
      · omega
      · exact ⟨g, cap, hv⟩
    have hg2 : w.grownBy w' v.ownBlock := ⟨hgrow.os, hgrow.tape, hgrow.output, Nat.le_trans (by simp) hgrow.size, fun k hk hne => (hgrow.block k (by simp; omega) hne).trans (Below.heap_alloc w _ k hk)⟩
    refine h g cap w' ?_ (fun w0 hb => hb.grown hg2 hB (fun k hk => (World.ownsRow.lt hown k hk).1)) hg2 ?_
    · unfold OwnS
      rw [List.length_append, List.map_append]
      exact hown'
    · rcases hloc with h1 | h1
      · exact .inl h1
      · right
        have e : g = (w.alloc (.cells #[.string c] 9)).heap.size := Option.some.inj h1
        rw [e]; simp
/-- A reading beside a row that has grown. -/
theorem SlR.grown {w w' : World} {sz : Nat} {a : Option Addr} {n c n' : Nat} {xs : List Value} {row : Option Nat} (h : SlR w sz (.slice a n c) n' xs) (hg : w.grownBy w' row) (hne : ∀ b off, a = some ⟨b, off, none⟩ → row ≠ some b) : SlR w' sz (.slice a n c) n' xs := by
  obtain ⟨h1, a', c', e, h2, h3, h4⟩ := h
  refine ⟨h1, a', c', e, h2, h3, fun j u hj => ?_⟩
  injection e with e1 e2 e3
  obtain ⟨b, off, ha, hc⟩ := h4 j u hj
  refine ⟨b, off, ha, ?_⟩
  have hb := hg.block b (World.block_lt_of_cell? _ _ hc) (fun e => hne b off (e1.trans ha) e.symm)
  rw [← hc]; unfold World.cell?
  show (match w'.heap[b]? with | _ => _) = _
  simp only [hb]
theorem Strs.grown {w w' : World} {a : Option Addr} {n c : Nat} {l : List ByteArray} {row : Option Nat} (h : Strs w (.slice a n c) l) (hg : w.grownBy w' row) (hne : ∀ b off, a = some ⟨b, off, none⟩ → row ≠ some b) : Strs w' (.slice a n c) l := ⟨h.1.grown hg hne, h.2⟩
theorem StrsW.block {w : World} {lo hi : Nat} {a : Option Addr} {n c : Nat} {l : List ByteArray} (h : StrsW w lo hi (.slice a n c) l) (hn : 1 ≤ n) : ∀ b off, a = some ⟨b, off, none⟩ → lo ≤ b ∧ b < hi := by
  obtain ⟨⟨h1, a', c', e, h2, h3, h4⟩, h5⟩ := h
  injection e with e1 e2 e3
  intro b off ha
  rcases h4 with h4 | ⟨g, off', cur, ha', hg, hg2, _⟩
  · omega
  · rw [← e1, ha] at ha'
    cases ha'
    exact ⟨hg, hg2⟩
end Go.Proofs.YtinmmbnlflmobaaGreatDoor
