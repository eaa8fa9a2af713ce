/- append(out, list...) of strings, out of any list that reads. Condition: Go's own bound on the bytes of a slice. -/
import Derived.Test.YtgefgdkejenhnaaDoorA
import Derived.Maps.AppendAt
namespace Go.Proofs.YtgefgdkejenhnaaDoor
open Go.RowKit
set_option maxRecDepth 100000 in
/-- append(out, list...): one arm of a walk. -/
theorem app_lst {ops : Array Oper} {rest : List Oper} {o : Oper} {a : Act} {Q : Exit → Act → World → Prop} {w : World} (hgd : o.guard = none) (s x : Operand)
    (ho : o.op = .call { callee := .builtin .append, args := #[s, x], argTypes := #[35, 35] })
    (B g0 n0 c0 : Nat) (l : List ByteArray) (hn0 : n0 = l.length) (hs : a.eval s = .slice (some ⟨g0, 0, none⟩) n0 c0) (hown : OwnS w B (.slice (some ⟨g0, 0, none⟩) n0 c0) l) (b : Option Addr) (m c : Nat) (l2 : List ByteArray) (hx : a.eval x = .slice b m c) (hr : Strs w (.slice b m c) l2)
    (hn : l.length + l2.length ≤ 4398046511104) (hB : B ≤ w.heap.size) (N : Nat) (hN : N = l.length + l2.length) (L : List ByteArray) (hL : L = l ++ l2)
    (h : ∀ g cap w', OwnS w' B (.slice (some ⟨g, 0, none⟩) N cap) L → w.grownBy w' (some g0) → (g = g0 ∨ w.heap.size ≤ g) → wpList Tryd.prog ops Q rest (a.put o.dst (.slice (some ⟨g, 0, none⟩) N cap)) w') :
    wpList Tryd.prog ops Q (o :: rest) a w := by
  subst hN hL hn0
  obtain ⟨i, hi, hz0, hz1, hz2⟩ := info_parts infoStr
  obtain ⟨b', c', e, hl, hc, hcs⟩ := hr.shape
  injection e with e1 e2 e3
  subst e1 e2 e3
  cases b with
  | none =>
    have hnil : l2 = [] := by
      cases l2 with
      | nil => rfl
      | cons y r => obtain ⟨b, o, e, -⟩ := hcs 0 (by simp); cases e
    subst hnil
    have ht := Tryd.underlying35
    have hrun : (Builtin.append_ #[35, 35] o.type #[.slice (some ⟨g0, 0, none⟩) l.length c0, .slice none 0 c]).run Tryd.prog w = .ok (.slice (some ⟨g0, 0, none⟩) l.length c0) w := by
      obtain ⟨_, hcap, e, hnc, -⟩ := hown.shape
      injection e with e1 e2 e3
      subst e3
      simp [Builtin.append_, run_underlying ht, sizeOf, typeInfo, hi, Builtin.lenOf, Builtin.firstCells, hnc, storeCells]
    have hh := h g0 c0 w (by simpa using hown) ⟨rfl, rfl, rfl, Nat.le_refl _, fun _ _ _ => rfl⟩ (.inl rfl)
    refine wpList_plain hgd fun K hK => ?_
    unfold Oper.wp execOp
    simp only [ho, resolve, invoke, builtin, Sem.run_bind, Sem.run_pure, Result.andThen_ok, List.map_toArray, List.map_cons, List.map_nil, hs, hx]
    rw [show ([] : List ByteArray).length = 0 from rfl, hrun]
    simp only [Result.andThen_ok]
    exact hK _ _ (by simpa using hh)
  | some ad =>
    refine wpList_append_own_at _ hgd s x 35 ho B 9 i (.string ⟨#[]⟩) 1 16 Tryd.underlying35 hi hz0 hz1 hz2 rfl (by decide) _ l.length (l.map Value.string) hs hown ad l2.length c (l2.map Value.string) hx (by simp) (fun j u hj => ?_) ?_ (by unfold maxLen; omega) (by omega) hB ?_
    · rw [List.getElem?_map] at hj
      obtain ⟨y, hy, rfl⟩ := Option.map_eq_some_iff.1 hj
      obtain ⟨hj2, rfl⟩ := List.getElem?_eq_some_iff.1 hy
      obtain ⟨b, off, e, hcell, -⟩ := hcs j hj2
      cases e
      have : (⟨b, off, none⟩ : Addr).add j = ⟨b, off + j, none⟩ := by unfold Addr.add; split <;> simp_all
      rw [this]; exact hcell
    · intro u hu; simp at hu; obtain ⟨y, -, rfl⟩ := hu; rfl
    · intro v' w' hown' hgrow hnil hloc
      obtain ⟨g, cap, rfl⟩ : ∃ g cap, v' = .slice (some ⟨g, 0, none⟩) (l.length + l2.length) cap := by
        rcases hown'.2 with ⟨h1, h0⟩ | ⟨g, cap, cur, hv, _⟩
        · have := (hnil.1 h1).1; simp at this
        · exact ⟨g, cap, hv⟩
      refine h g cap w' ?_ hgrow ?_
      · unfold OwnS
        rw [List.length_append, List.map_append]
        exact hown'
      · rcases hloc with h1 | h1
        · exact .inl (Option.some.inj h1)
        · right
          have e : g = w.heap.size := Option.some.inj h1
          omega
/-- append(out, list...) at a step of a region that draws its order. -/
theorem step_lst {ops : Array Oper} {o : Oper} {a : Act} {K : Act → World → Prop} {Q : Exit → Act → World → Prop} {E : Prop} {w : World} (hgd : o.guard = none) (s x : Operand)
    (ho : o.op = .call { callee := .builtin .append, args := #[s, x], argTypes := #[35, 35] })
    (B g0 n0 c0 : Nat) (l : List ByteArray) (hn0 : n0 = l.length) (hs : a.eval s = .slice (some ⟨g0, 0, none⟩) n0 c0) (hown : OwnS w B (.slice (some ⟨g0, 0, none⟩) n0 c0) l) (b oo m c : Nat) (l2 : List ByteArray) (hm : m = l2.length) (hx : a.eval x = .slice (some ⟨b, oo, none⟩) m c) (hc : ∀ j (h : j < l2.length), w.cell? ⟨b, oo + j, none⟩ = some (.string l2[j]))
    (hn : l.length + l2.length ≤ 4398046511104) (hB : B ≤ w.heap.size) (N : Nat) (hN : N = l.length + l2.length) (L : List ByteArray) (hL : L = l ++ l2)
    (h : ∀ g cap w', OwnS w' B (.slice (some ⟨g, 0, none⟩) N cap) L → w.grownBy w' (some g0) → (g = g0 ∨ w.heap.size ≤ g) → K (a.put o.dst (.slice (some ⟨g, 0, none⟩) N cap)) w') :
    if Region.wanted o (yielded ops a.tmps) = true then Oper.wp Tryd.prog o a w K Q else E := by
  subst hN hL hn0 hm
  have hw : Region.wanted o (yielded ops a.tmps) = true := by simp [Region.wanted, hgd]
  rw [if_pos hw]
  obtain ⟨i, hi, hz0, hz1, hz2⟩ := info_parts infoStr
  obtain ⟨v', w', hr, h2, h3, h4, h5⟩ := run_append_own_at (P := Tryd.prog) w B 35 o.type 9 i (.string ⟨#[]⟩) 1 16 Tryd.underlying35 hi hz0 hz1 hz2 rfl (by decide) _ l.length (l.map Value.string) hown ⟨b, oo, none⟩ l2.length c (l2.map Value.string) (by simp) (fun j u hj => by
    rw [List.getElem?_map] at hj
    obtain ⟨y, hy, rfl⟩ := Option.map_eq_some_iff.1 hj
    obtain ⟨hj2, rfl⟩ := List.getElem?_eq_some_iff.1 hy
    have : (⟨b, oo, none⟩ : Addr).add j = ⟨b, oo + j, none⟩ := by unfold Addr.add; split <;> simp_all
    rw [this]; exact hc j hj2) (fun u hu => by simp at hu; obtain ⟨y, -, rfl⟩ := hu; rfl) (by unfold maxLen; omega) (by omega) hB
  obtain ⟨g, cap, rfl⟩ : ∃ g cap, v' = .slice (some ⟨g, 0, none⟩) (l.length + l2.length) cap := by
    rcases h2.2 with ⟨h1, h0⟩ | ⟨g, cap, cur, hv, _⟩
    · have := (h4.1 h1).1; simp at this
    · exact ⟨g, cap, hv⟩
  unfold Oper.wp execOp
  simp only [ho, resolve, invoke, builtin, Sem.run_bind, Sem.run_pure, Result.andThen_ok, List.map_toArray, List.map_cons, List.map_nil, hs, hx, hr]
  refine h g cap w' ?_ h3 ?_
  · unfold OwnS
    rw [List.length_append, List.map_append]
    exact h2
  · rcases h5 with h1 | h1
    · exact .inl (Option.some.inj h1)
    · right
      have e : g = w.heap.size := Option.some.inj h1
      omega
end Go.Proofs.YtgefgdkejenhnaaDoor
