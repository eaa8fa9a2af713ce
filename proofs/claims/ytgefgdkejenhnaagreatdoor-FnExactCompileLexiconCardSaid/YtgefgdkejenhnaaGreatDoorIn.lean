/- l03Insert of the reference, for any list: an insertion into its place, or none where the string is there already. Conditions: the list is the call's own; at most 2^20 strings. -/
import Derived.Test.YtgefgdkejenhnaaGreatDoorInL
import Derived.Test.YtgefgdkejenhnaaGreatDoorAt

set_option linter.unusedSimpArgs false
namespace Go.Proofs.YtgefgdkejenhnaaGreatDoor
open Go.RowKit
/-- append(out, vs...) for strings: one arm of a walk. -/
theorem app_strs_in {ops : Array Oper} {rest : List Oper} {o : Oper} {a : Act} {Q : Exit → Act → World → Prop} {w : World} (hgd : o.guard = none) (s x : Operand)
    (ho : o.op = .call { callee := .builtin .append, args := #[s, x], argTypes := #[27, 27] })
    (B : Nat) (v : Value) (l : List ByteArray) (hs : a.eval s = v) (hown : OwnS w B v l) (hv : v ≠ .slice none 0 0) (ad : Addr) (m c : Nat) (l2 : List ByteArray) (hm : l2.length = m) (hx : a.eval x = .slice (some ad) m c)
    (hc : ∀ j u, (l2.map Value.string)[j]? = some u → w.cell? (ad.add j) = some u)
    (hn : l.length + m ≤ 4398046511104) (hB : B ≤ w.heap.size) (N : Nat) (hN : N = l.length + m) (L : List ByteArray) (hL : L = l ++ l2)
    (h : ∀ g cap w', OwnS w' B (.slice (some ⟨g, 0, none⟩) N cap) L → w.grownBy w' v.ownBlock → (some g = v.ownBlock ∨ w.heap.size ≤ g) → wpList Tryz.prog ops Q rest (a.put o.dst (.slice (some ⟨g, 0, none⟩) N cap)) w') :
    wpList Tryz.prog ops Q (o :: rest) a w := by
  subst hm hN hL
  obtain ⟨i, hi, hz0, hz1, hz2⟩ := info_parts infoStr
  refine wpList_append_own_at _ hgd s x 27 ho B 9 i (.string ⟨#[]⟩) 1 16 Tryz.underlying27 hi hz0 hz1 hz2 rfl (by decide) v l.length (l.map Value.string) hs hown ad l2.length c (l2.map Value.string) hx (by simp) hc ?_ (by unfold maxLen; omega) (by omega) hB ?_
  · intro u hu; simp at hu; obtain ⟨y, -, rfl⟩ := hu; rfl
  · intro v' w' hown' hgrow hnil hloc
    obtain ⟨g, cap, rfl⟩ : ∃ g cap, v' = .slice (some ⟨g, 0, none⟩) (l.length + l2.length) cap := by
      rcases hown'.2 with ⟨h1, h0⟩ | ⟨g, cap, cur, hv, _⟩
      · exact absurd (hnil.1 h1).1 hv
      · exact ⟨g, cap, hv⟩
    refine h g cap w' ?_ hgrow ?_
    · unfold OwnS
      rw [List.length_append, List.map_append]
      exact hown'
    · rcases hloc with h1 | h1
      · exact .inl h1
      · right
        have e : g = w.heap.size := Option.some.inj h1
        omega
theorem own_mono {w : World} {B B2 : Nat} {v : Value} {l : List ByteArray} (h : OwnS w B v l) (hB : B2 ≤ B) : OwnS w B2 v l := by
  obtain ⟨h1, h2⟩ := h
  refine ⟨h1, ?_⟩
  rcases h2 with h2 | ⟨g, cap, cur, a, b, c⟩
  · exact .inl h2
  · exact .inr ⟨g, cap, cur, a, Nat.le_trans hB b, c⟩
theorem add_pl (b off i : Nat) : (⟨b, off, none⟩ : Addr).add i = ⟨b, off + i, none⟩ := by unfold Addr.add; split <;> simp_all
/-- The list with the string at place k. -/
def putAt (l : List ByteArray) (x : ByteArray) (k : Nat) : List ByteArray := l.take k ++ x :: l.drop k
theorem putAt_len {l : List ByteArray} {x : ByteArray} {k : Nat} (h : k ≤ l.length) : (putAt l x k).length = l.length + 1 := by simp [putAt]; omega
theorem putAt_parts (l : List ByteArray) (x : ByteArray) (k : Nat) : putAt l x k = (l.take k ++ [x]) ++ l.drop k := by simp [putAt]
attribute [local irreducible] Calls
set_option maxHeartbeats 8000000 in
set_option maxRecDepth 20000 in
theorem insertG_any (B g cap : Nat) (l : List ByteArray) (x : ByteArray) (w : World) (hl : l.length ≤ 1048576) (hBw : B ≤ w.heap.size) (hown : OwnS w B (.slice (some ⟨g, 0, none⟩) l.length cap) l) :
    Calls Tryz.prog 81 #[.slice (some ⟨g, 0, none⟩) l.length cap, .string x] w fun e w' => ∃ l2 g' cap', e = .returned (.slice (some ⟨g', 0, none⟩) l2.length cap') ∧ InsTo l x l2 ∧ OwnS w' B (.slice (some ⟨g', 0, none⟩) l2.length cap') l2 ∧ Below w.heap.size w w' := by
  have hcap : l.length ≤ cap ∧ cap ≤ maxLen := by
    obtain ⟨a, c, e, h1, h2⟩ := hown.shape
    injection e with e1 e2 e3
    omega
  have hg := (World.ownsRow.lt hown g rfl).2
  have Hown := Lib.hid hown
  obtain ⟨hcap1, hcap2⟩ := hcap
  unfold maxLen at hcap2
  have Hcell : Hid (∀ j (hj : j < l.length), w.cell? ⟨g, j, none⟩ = some (.string l[j])) := Lib.hid fun j hj => by
    have := World.ownsRow.cellAt hown j (by omega)
    rw [this, List.getElem?_map, List.getElem?_eq_getElem hj]; rfl
  clear hown
  go_enter Tryz.func81, Tryz.ntmps81
  go_wp2
  go_loop [5] (fun i => ∃ k : Nat, k ≤ l.length ∧ i = .int .i64 (k : Int) ∧ Hid (∀ j, k ≤ j → (h : j < l.length) → Op.bytesLess x.toList l[j].toList = true)) (fun i => (intOf i).toNat)
  case atStart => exact ⟨l.length, Nat.le_refl _, rfl, Lib.hid fun j h h2 => by omega⟩
  case round =>
    obtain ⟨k, hk, rfl, Hgt⟩ := hrel
    have HC : Hid (∀ j u, ((l.take k).map Value.string)[j]? = some u → (w.alloc (.cells #[] 9)).cell? ((⟨g, 0, none⟩ : Addr).add j) = some u) := Lib.hid (fun j u hj => by
      have hj2 : (l.map Value.string)[j]? = some u := by
        rw [List.getElem?_map] at hj ⊢
        rw [List.getElem?_take] at hj
        split at hj
        · exact hj
        · simp at hj
      exact World.ownsRow.cells (World.ownsRow.alloc Hown.out _) (g := g) rfl j u hj2)
    have HC2 : Hid (∀ (w' : World), Below w.heap.size w w' → ∀ j u, ((l.drop k).map Value.string)[j]? = some u → w'.cell? ((⟨g, k, none⟩ : Addr).add j) = some u) := Lib.hid (fun w' hb j u hj => by
      have hj2 : (l.map Value.string)[k + j]? = some u := by
        rw [List.getElem?_map] at hj ⊢
        rw [List.getElem?_drop] at hj
        exact hj
      have h1 := World.ownsRow.cells (Hown.out.below hb) (g := g) rfl (k + j) u hj2
      have e : (⟨g, k, none⟩ : Addr).add j = (⟨g, 0, none⟩ : Addr).add (k + j) := by rw [add_pl, add_pl, Nat.zero_add]
      rw [e]; exact h1)
    have Hlen : Hid ((l.take k).length = k) := Lib.hid (by rw [List.length_take]; omega)
    have Hlen2 : Hid ((l.drop k).length = l.length - k) := Lib.hid (by rw [List.length_drop])
    by_cases h0 : 0 < k
    · obtain ⟨j, rfl⟩ : ∃ j, k = j + 1 := ⟨k - 1, by omega⟩
      have hjl : j < l.length := by omega
      have hcell := Hcell.out j hjl
      have hpos : (0 : Int) < (j : Int) + 1 := by omega
      have hj0 : (0 : Int) ≤ (j : Int) := by omega
      have hjn : (j : Int) < (l.length : Int) := by omega
      rcases bl_tri l[j].toList x.toList with ⟨hx1, hx2, hx3, hx4⟩ | ⟨hx1, hx2, hx3, hx4⟩ | ⟨hx1, hx2, hx3⟩
      · have Hx := Lib.hid hx1
        have hcI : (j : Int) + 1 ≤ (cap : Int) := by omega
        have hcL : (j : Int) + 1 ≤ (l.length : Int) := by omega
        have hcLn : j + 1 ≤ l.length := by omega

        have e3 : l.length + 1 = (putAt l x (j + 1)).length := (putAt_len hcLn).symm
        have hLn : (l.take (j + 1)).length + 1 + (l.length - (j + 1)) = l.length + 1 := by rw [Hlen.out]; omega
        by_cases hcn : cap = j + 1
        all_goals
          go_wp2_with (first
            | (at_builtin; refine app_strs_in (w := w.alloc (.cells #[] 9)) rfl (.tmp 34) (.tmp 37) rfl w.heap.size (.slice (some ⟨w.heap.size, 0, none⟩) 0 0) [] rfl (OwnS.made w w.heap.size (Nat.le_refl _)) (by simp) ⟨g, 0, none⟩ (j + 1) _ (l.take (j + 1)) Hlen.out rfl HC.out (by first | omega | (simp <;> omega)) (by simp) (j + 1) (by simp) (l.take (j + 1)) rfl ?_; intro g1 cap1 w1 hown1 hgr1 hloc1; have Hb1 := Lib.hid (Below.grown ((Below.refl w.heap.size w).alloc (Nat.le_refl _) (.cells #[] 9)) hgr1 (by simp) (fun k hk => by have : w.heap.size = k := (by simpa [Value.ownBlock] using hk); omega)))
            | (at_builtin; refine app_str_at (w := w1) rfl (.tmp 39) (.tmp 41) rfl w.heap.size (.slice (some ⟨g1, 0, none⟩) (j + 1) cap1) (l.take (j + 1)) rfl hown1 x rfl (by first | omega | (simp <;> omega)) Hb1.out.size ?_; intro g2 cap2 w2 hown2 hbel2 hgr2 hloc2; rw [Hlen.out] at hown2)
            | (at_builtin; refine app_strs_in (w := w2) rfl (.tmp 43) (.tmp 46) rfl w.heap.size (.slice (some ⟨g2, 0, none⟩) (j + 1 + 1) cap2) ((l.take (j + 1)) ++ [x]) rfl hown2 (by simp) ⟨g, j + 1, none⟩ (l.length - (j + 1)) _ (l.drop (j + 1)) Hlen2.out rfl (HC2.out _ (hbel2 w Hb1.out)) (by first | omega | (simp <;> omega)) (hbel2 w Hb1.out).size (l.length + 1) (by rw [List.length_append]; simp only [List.length_singleton]; omega) (putAt l x (j + 1)) (putAt_parts l x _) ?_; intro g3 cap3 w3 hown3 hgr3 hloc3)
            | (at_builtin; refine app_strs_in (w := w2) rfl (.tmp 43) (.tmp 46) rfl w.heap.size (.slice (some ⟨g2, 0, none⟩) (j + 1 + 1) cap2) ((l.take (j + 1)) ++ [x]) rfl hown2 (by simp) _ (l.length - (j + 1)) _ (l.drop (j + 1)) Hlen2.out rfl (fun j u hj => absurd hj (by rw [List.drop_eq_nil_of_le (by omega)]; simp)) (by first | omega | (simp <;> omega)) (hbel2 w Hb1.out).size (l.length + 1) (by rw [List.length_append]; simp only [List.length_singleton]; omega) (putAt l x (j + 1)) (putAt_parts l x _) ?_; intro g3 cap3 w3 hown3 hgr3 hloc3)
            | fail)
          go_ret
          refine ⟨putAt l x (j + 1), g3, cap3, by rw [← e3]; rfl, .inr ⟨j + 1, hcLn, rfl, fun y hy => ?_, fun _ _ => Hx.out⟩, own_mono (by rw [← e3]; exact hown3) hBw, (hbel2 w Hb1.out).grown hgr3 (hbel2 w Hb1.out).size (fun k hk => (World.ownsRow.lt hown2 k hk).1)⟩
          obtain ⟨i, hi, rfl⟩ := List.getElem_of_mem hy
          rw [List.getElem_drop]
          rw [List.length_drop] at hi
          exact Hgt.out _ (by omega) (by omega)
      · have Hx := Lib.hid hx2
        go_wp2
        go_round
        case rel => exact ⟨j, by omega, by go_num, Lib.hid fun i hi h => by
          by_cases e : i = j
          · subst e; exact Hx.out
          · exact Hgt.out i (by omega) h⟩
        case measure => simp [intOf]
      · have hx4 : (l[j].toList == x.toList) = true := by rw [hx3]; exact beq_self_eq_true _
        have Hx := Lib.hid (bytes_eq_of hx4)
        clear hx3
        go_wp2
        go_ret
        exact ⟨l, g, cap, rfl, .inl ⟨rfl, Hx.out ▸ List.getElem_mem _⟩, Hown.out, Below.refl _ _⟩
    · obtain rfl : k = 0 := by omega
      have hcI : (0 : Int) ≤ (cap : Int) := by omega
      have hcL : (0 : Int) ≤ (l.length : Int) := by omega
      have hcLn : 0 ≤ l.length := by omega
      have e3 : l.length + 1 = (putAt l x (0)).length := (putAt_len hcLn).symm
      have hLn : (l.take (0)).length + 1 + (l.length - (0)) = l.length + 1 := by rw [Hlen.out]; omega
      by_cases hcn : cap = 0
      all_goals
        go_wp2_with (first
          | (at_builtin; refine app_strs_in (w := w.alloc (.cells #[] 9)) rfl (.tmp 34) (.tmp 37) rfl w.heap.size (.slice (some ⟨w.heap.size, 0, none⟩) 0 0) [] rfl (OwnS.made w w.heap.size (Nat.le_refl _)) (by simp) ⟨g, 0, none⟩ (0) _ (l.take (0)) Hlen.out rfl HC.out (by first | omega | (simp <;> omega)) (by simp) (0) (by simp) (l.take (0)) rfl ?_; intro g1 cap1 w1 hown1 hgr1 hloc1; have Hb1 := Lib.hid (Below.grown ((Below.refl w.heap.size w).alloc (Nat.le_refl _) (.cells #[] 9)) hgr1 (by simp) (fun k hk => by have : w.heap.size = k := (by simpa [Value.ownBlock] using hk); omega)))
          | (at_builtin; refine app_str_at (w := w1) rfl (.tmp 39) (.tmp 41) rfl w.heap.size (.slice (some ⟨g1, 0, none⟩) (0) cap1) (l.take (0)) rfl hown1 x rfl (by first | omega | (simp <;> omega)) Hb1.out.size ?_; intro g2 cap2 w2 hown2 hbel2 hgr2 hloc2; rw [Hlen.out] at hown2)
          | (at_builtin; refine app_strs_in (w := w2) rfl (.tmp 43) (.tmp 46) rfl w.heap.size (.slice (some ⟨g2, 0, none⟩) 1 cap2) ((l.take (0)) ++ [x]) rfl hown2 (by simp) ⟨g, 0, none⟩ (l.length - (0)) _ (l.drop (0)) Hlen2.out rfl (HC2.out _ (hbel2 w Hb1.out)) (by first | omega | (simp <;> omega)) (hbel2 w Hb1.out).size (l.length + 1) (by rw [List.length_append]; simp only [List.length_singleton]; omega) (putAt l x (0)) (putAt_parts l x _) ?_; intro g3 cap3 w3 hown3 hgr3 hloc3)
          | (at_builtin; refine app_strs_in (w := w2) rfl (.tmp 43) (.tmp 46) rfl w.heap.size (.slice (some ⟨g2, 0, none⟩) 1 cap2) ((l.take (0)) ++ [x]) rfl hown2 (by simp) _ (l.length - (0)) _ (l.drop (0)) Hlen2.out rfl (fun j u hj => absurd hj (by rw [List.drop_eq_nil_of_le (by omega)]; simp)) (by first | omega | (simp <;> omega)) (hbel2 w Hb1.out).size (l.length + 1) (by rw [List.length_append]; simp only [List.length_singleton]; omega) (putAt l x (0)) (putAt_parts l x _) ?_; intro g3 cap3 w3 hown3 hgr3 hloc3)
          | fail)
        go_ret
        refine ⟨putAt l x (0), g3, cap3, by rw [← e3]; rfl, .inr ⟨0, hcLn, rfl, fun y hy => ?_, fun h => by omega⟩, own_mono (by rw [← e3]; exact hown3) hBw, (hbel2 w Hb1.out).grown hgr3 (hbel2 w Hb1.out).size (fun k hk => (World.ownsRow.lt hown2 k hk).1)⟩
        obtain ⟨i, hi, rfl⟩ := List.getElem_of_mem hy
        rw [List.getElem_drop]
        rw [List.length_drop] at hi
        exact Hgt.out _ (by omega) (by omega)
end Go.Proofs.YtgefgdkejenhnaaGreatDoor
