/- An insertion at the end of a sorted list, of the reference. -/
import Derived.Test.YthpjinfkagllfaaSuI
set_option linter.unusedSimpArgs false
namespace Go.Proofs.Ythpjinfkagllfaa
open Go.RowKit
/-- append(out, vs...) for strings: one arm of a walk. -/
theorem app_strs_at {ops : Array Oper} {rest : List Oper} {o : Oper} {a : Act} {Q : Exit → Act → World → Prop} {w : World} (hgd : o.guard = none) (s x : Operand)
    (ho : o.op = .call { callee := .builtin .append, args := #[s, x], argTypes := #[22, 22] })
    (B : Nat) (v : Value) (l : List ByteArray) (hs : a.eval s = v) (hown : OwnS w B v l) (hv : v ≠ .slice none 0 0) (ad : Addr) (m c : Nat) (l2 : List ByteArray) (hm : l2.length = m) (hx : a.eval x = .slice (some ad) m c)
    (hc : ∀ j u, (l2.map Value.string)[j]? = some u → w.cell? (ad.add j) = some u)
    (hn : l.length + m ≤ 4398046511104) (hB : B ≤ w.heap.size) (N : Nat) (hN : N = l.length + m) (L : List ByteArray) (hL : L = l ++ l2)
    (h : ∀ g cap w', OwnS w' B (.slice (some ⟨g, 0, none⟩) N cap) L → w.grownBy w' v.ownBlock → (some g = v.ownBlock ∨ w.heap.size ≤ g) → wpList Try.prog ops Q rest (a.put o.dst (.slice (some ⟨g, 0, none⟩) N cap)) w') :
    wpList Try.prog ops Q (o :: rest) a w := by
  subst hm hN hL
  obtain ⟨i, hi, hz0, hz1, hz2⟩ := info_parts infoStr
  refine wpList_append_own_at _ hgd s x 22 ho B 9 i (.string ⟨#[]⟩) 1 16 Try.underlying22 hi hz0 hz1 hz2 rfl (by decide) v l.length (l.map Value.string) hs hown ad l2.length c (l2.map Value.string) hx (by simp) hc ?_ (by unfold maxLen; omega) (by omega) hB ?_
  · intro u hu; simp at hu; obtain ⟨y, -, rfl⟩ := hu; rfl
  · intro v' w' hown' hgrow hnil hloc
    obtain ⟨g, cap, rfl⟩ : ∃ g cap, v' = .slice (some ⟨g, 0, none⟩) (l.length + l2.length) cap := by
      rcases hown'.2 with ⟨h1, h0⟩ | ⟨g, cap, cur, hv, _⟩
      · exact absurd (hnil.1 h1).1 hv
      · exact ⟨g, cap, hv⟩
    refine h g cap w' ?_ hgrow ?_
    · unfold OwnS
      rw [List.length_append, List.map_append]
      exact hown'
    · rcases hloc with h1 | h1
      · exact .inl h1
      · right
        have e : g = w.heap.size := Option.some.inj h1
        omega
theorem ret_of {v : Value} {g c a b : Nat} (h : a = b) : v = .slice (some ⟨g, 0, none⟩) (a + 1) c → v = .slice (some ⟨g, 0, none⟩) (b + 1) c := fun e => by rw [e, h]
attribute [local irreducible] Calls
set_option maxHeartbeats 8000000 in
set_option maxRecDepth 20000 in
theorem l03Insert_any (B g cap : Nat) (l : List ByteArray) (x : ByteArray) (w : World) (hl : l.length ≤ 1048576) (hsz : ∀ s ∈ l, s.size ≤ maxLen) (hown : OwnS w B (.slice (some ⟨g, 0, none⟩) l.length cap) l)
    (hlast : ∀ (h : 0 < l.length), Op.bytesLess (l[l.length - 1]'(by omega)).toList x.toList = true) :
    Calls Try.prog 77 #[.slice (some ⟨g, 0, none⟩) l.length cap, .string x] w fun e w' => ∃ g' cap', e = .returned (.slice (some ⟨g', 0, none⟩) (l.length + 1) cap') ∧ OwnS w' w.heap.size (.slice (some ⟨g', 0, none⟩) (l.length + 1) cap') (l ++ [x]) ∧ Below w.heap.size w w' := by
  have hcap : l.length ≤ cap ∧ cap ≤ maxLen := by
    obtain ⟨a, c, e, h1, h2⟩ := hown.shape
    injection e with e1 e2 e3
    omega
  have hg := (World.ownsRow.lt hown g rfl).2
  have Hown := Lib.hid hown
  have hcapO := hcap
  by_cases h0 : l.length = 0
  · obtain rfl : l = [] := List.eq_nil_of_length_eq_zero h0
    clear hsz hlast h0 hcap
    have HC : Hid (∀ j u, ((([] : List ByteArray)).map Value.string)[j]? = some u → (w.alloc (.cells #[] 9)).cell? ((⟨g, 0, none⟩ : Addr).add j) = some u) := Lib.hid (fun j u hj => World.ownsRow.cells (World.ownsRow.alloc Hown.out _) (g := g) rfl j u hj)
    clear hown hcapO
    go_enter Try.func77, Try.ntmps77
    go_wp2
    refine wp_loop_rounds 1 ?_
    rw [rounds_succ]
    by_cases hcn : cap = 0
    all_goals
      go_wp2_with (first
        | (at_builtin; refine app_strs_at (w := w.alloc (.cells #[] 9)) rfl (.tmp 34) (.tmp 37) rfl w.heap.size (.slice (some ⟨w.heap.size, 0, none⟩) 0 0) [] rfl (OwnS.made w w.heap.size (Nat.le_refl _)) (by simp) ⟨g, 0, none⟩ (0) _ (([] : List ByteArray)) rfl rfl HC.out (by first | omega | (simp <;> omega)) (by simp) (0) (by simp) (([] : List ByteArray)) rfl ?_; intro g1 cap1 w1 hown1 hgr1 hloc1; have Hb1 := Lib.hid (Below.grown ((Below.refl w.heap.size w).alloc (Nat.le_refl _) (.cells #[] 9)) hgr1 (by simp) (fun k hk => by have : w.heap.size = k := (by simpa [Value.ownBlock] using hk); omega)))
        | (at_builtin; refine app_str_at (w := w1) rfl (.tmp 39) (.tmp 41) rfl w.heap.size (.slice (some ⟨g1, 0, none⟩) 0 cap1) (([] : List ByteArray)) rfl hown1 x rfl (by first | omega | (simp <;> omega)) Hb1.out.size ?_; intro g2 cap2 w2 hown2 hbel2 hgr2 hloc2)
        | (at_builtin; refine app_strs_at (w := w2) rfl (.tmp 43) (.tmp 46) rfl w.heap.size (.slice (some ⟨g2, 0, none⟩) ((([] : List ByteArray)).length + 1) cap2) ((([] : List ByteArray)) ++ [x]) rfl hown2 (by simp) _ 0 _ [] rfl rfl (fun j u hj => by simp at hj) (by first | omega | (simp <;> omega)) (hbel2 w Hb1.out).size ((([] : List ByteArray)).length + 1) (by simp) ((([] : List ByteArray)) ++ [x]) (by simp) ?_; intro g3 cap3 w3 hown3 hgr3 hloc3)
        | fail)
      go_ret
      exact ⟨g3, cap3, by simp, hown3, (hbel2 w Hb1.out).grown hgr3 (hbel2 w Hb1.out).size (fun k hk => (World.ownsRow.lt hown2 k hk).1)⟩
  · obtain ⟨n, hn⟩ : ∃ n, l.length = n + 1 := ⟨l.length - 1, by omega⟩
    have hcell : w.cell? ⟨g, n, none⟩ = some (.string (l[n]'(by omega))) := by
      have := World.ownsRow.cellAt hown n (by omega)
      rw [this, List.getElem?_map, List.getElem?_eq_getElem (by omega)]; rfl
    obtain ⟨y, hy⟩ : ∃ y, y = l[n]'(by omega) := ⟨_, rfl⟩
    have hless : Op.bytesLess y.toList x.toList = true := by
      have := hlast (by omega)
      simp only [hn, Nat.add_sub_cancel] at this
      rw [hy]; exact this
    have hys : y.size ≤ maxLen := by rw [hy]; exact hsz _ (List.getElem_mem _)
    rw [← hy] at hcell
    have ht3 : (y.toList == x.toList) = false := by
      rcases bl_tri y.toList x.toList with ⟨_, h2, h3, _⟩ | ⟨h1, _⟩ | ⟨h1, _⟩
      · exact h3
      · rw [h1] at hless; cases hless
      · rw [h1] at hless; cases hless
    have hn2 : n ≤ 1048576 := by omega
    have Hn := Lib.hid hn
    have hcap2 := hcap
    rw [hn] at hcap2 ⊢
    rw [hn] at hcap
    clear hy hsz hlast hn h0
    have hpos : (0 : Int) < (n : Int) + 1 := by omega
    have hn0 : (0 : Int) ≤ (n : Int) := by omega
    have hnn : (n : Int) < (n : Int) + 1 := by omega
    have hcI : (n : Int) + 1 ≤ (cap : Int) := by omega
    have HC : Hid (∀ j u, ((l).map Value.string)[j]? = some u → (w.alloc (.cells #[] 9)).cell? ((⟨g, 0, none⟩ : Addr).add j) = some u) := Lib.hid (fun j u hj => World.ownsRow.cells (World.ownsRow.alloc Hown.out _) (g := g) rfl j u hj)
    clear hown hcapO
    go_enter Try.func77, Try.ntmps77
    go_wp2
    refine wp_loop_rounds 1 ?_
    rw [rounds_succ]
    by_cases hcn : cap = n + 1
    all_goals
      go_wp2_with (first
        | (at_builtin; refine app_strs_at (w := w.alloc (.cells #[] 9)) rfl (.tmp 34) (.tmp 37) rfl w.heap.size (.slice (some ⟨w.heap.size, 0, none⟩) 0 0) [] rfl (OwnS.made w w.heap.size (Nat.le_refl _)) (by simp) ⟨g, 0, none⟩ (n + 1) _ (l) Hn.out rfl HC.out (by first | omega | (simp <;> omega)) (by simp) (n + 1) (by simp) (l) rfl ?_; intro g1 cap1 w1 hown1 hgr1 hloc1; have Hb1 := Lib.hid (Below.grown ((Below.refl w.heap.size w).alloc (Nat.le_refl _) (.cells #[] 9)) hgr1 (by simp) (fun k hk => by have : w.heap.size = k := (by simpa [Value.ownBlock] using hk); omega)))
        | (at_builtin; refine app_str_at (w := w1) rfl (.tmp 39) (.tmp 41) rfl w.heap.size (.slice (some ⟨g1, 0, none⟩) (n + 1) cap1) (l) rfl hown1 x rfl (by first | omega | (simp <;> omega)) Hb1.out.size ?_; intro g2 cap2 w2 hown2 hbel2 hgr2 hloc2)
        | (at_builtin; refine app_strs_at (w := w2) rfl (.tmp 43) (.tmp 46) rfl w.heap.size (.slice (some ⟨g2, 0, none⟩) ((l).length + 1) cap2) ((l) ++ [x]) rfl hown2 (by simp) _ 0 _ [] rfl rfl (fun j u hj => by simp at hj) (by first | omega | (simp <;> omega)) (hbel2 w Hb1.out).size ((l).length + 1) (by simp) ((l) ++ [x]) (by simp) ?_; intro g3 cap3 w3 hown3 hgr3 hloc3)
        | fail)
      go_ret
      exact ⟨g3, cap3, by simp [Hn.out], by rw [Hn.out] at hown3; exact hown3, (hbel2 w Hb1.out).grown hgr3 (hbel2 w Hb1.out).size (fun k hk => (World.ownsRow.lt hown2 k hk).1)⟩
end Go.Proofs.Ythpjinfkagllfaa
