/- l03Insert of the reference, for any list: an insertion into its place, or none where the string is there already. Conditions: the list is the call's own; at most 2^20 strings. -/
import Derived.Test.YtgefgdkejenhnaaDoorInL
import Derived.Test.YtgefgdkejenhnaaDoorAt

set_option linter.unusedSimpArgs false
namespace Go.Proofs.YtgefgdkejenhnaaDoor
open Go.RowKit
/-- append(out, vs...) for strings: one arm of a walk. -/
theorem app_strs_in {ops : Array Oper} {rest : List Oper} {o : Oper} {a : Act} {Q : Exit → Act → World → Prop} {w : World} (hgd : o.guard = none) (s x : Operand)
    (ho : o.op = .call { callee := .builtin .append, args := #[s, x], argTypes := #[35, 35] })
    (B : Nat) (v : Value) (l : List ByteArray) (hs : a.eval s = v) (hown : OwnS w B v l) (hv : v ≠ .slice none 0 0) (ad : Addr) (m c : Nat) (l2 : List ByteArray) (hm : l2.length = m) (hx : a.eval x = .slice (some ad) m c)
    (hc : ∀ j u, (l2.map Value.string)[j]? = some u → w.cell? (ad.add j) = some u)
    (hn : l.length + m ≤ 4398046511104) (hB : B ≤ w.heap.size) (N : Nat) (hN : N = l.length + m) (L : List ByteArray) (hL : L = l ++ l2)
    (h : ∀ g cap w', OwnS w' B (.slice (some ⟨g, 0, none⟩) N cap) L → w.grownBy w' v.ownBlock → (some g = v.ownBlock ∨ w.heap.size ≤ g) → wpList Tryd.prog ops Q rest (a.put o.dst (.slice (some ⟨g, 0, none⟩) N cap)) w') :
    wpList Tryd.prog ops Q (o :: rest) a w := by
  subst hm hN hL
  obtain ⟨i, hi, hz0, hz1, hz2⟩ := info_parts infoStr
  refine wpList_append_own_at _ hgd s x 35 ho B 9 i (.string ⟨#[]⟩) 1 16 Tryd.underlying35 hi hz0 hz1 hz2 rfl (by decide) v l.length (l.map Value.string) hs hown ad l2.length c (l2.map Value.string) hx (by simp) hc ?_ (by unfold maxLen; omega) (by omega) hB ?_
  · intro u hu; simp at hu; obtain ⟨y, -, rfl⟩ := hu; rfl
  · intro v' w' hown' hgrow hnil hloc
    obtain ⟨g, cap, rfl⟩ : ∃ g cap, v' = .slice (some ⟨g, 0, none⟩) (l.length + l2.length) cap := by
      rcases hown'.2 with ⟨h1, h0⟩ | ⟨g, cap, cur, hv, _⟩
      · exact absurd (hnil.1 h1).1 hv
      · exact ⟨g, cap, hv⟩
    refine h g cap w' ?_ hgrow ?_
    · unfold OwnS
      rw [List.length_append, List.map_append]
      exact hown'
    · rcases hloc with h1 | h1
      · exact .inl h1
      · right
        have e : g = w.heap.size := Option.some.inj h1
        omega
theorem own_mono {w : World} {B B2 : Nat} {v : Value} {l : List ByteArray} (h : OwnS w B v l) (hB : B2 ≤ B) : OwnS w B2 v l := by
  obtain ⟨h1, h2⟩ := h
  refine ⟨h1, ?_⟩
  rcases h2 with h2 | ⟨g, cap, cur, a, b, c⟩
  · exact .inl h2
  · exact .inr ⟨g, cap, cur, a, Nat.le_trans hB b, c⟩
theorem add_pl (b off i : Nat) : (⟨b, off, none⟩ : Addr).add i = ⟨b, off + i, none⟩ := by unfold Addr.add; split <;> simp_all
/-- The list with the string at place k. -/
def putAt (l : List ByteArray) (x : ByteArray) (k : Nat) : List ByteArray := l.take k ++ x :: l.drop k
theorem putAt_len {l : List ByteArray} {x : ByteArray} {k : Nat} (h : k ≤ l.length) : (putAt l x k).length = l.length + 1 := by simp [putAt]; omega
theorem putAt_parts (l : List ByteArray) (x : ByteArray) (k : Nat) : putAt l x k = (l.take k ++ [x]) ++ l.drop k := by simp [putAt]
attribute [local irreducible] Calls
end Go.Proofs.YtgefgdkejenhnaaDoor
