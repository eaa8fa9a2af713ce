/- A drawn grammar that is seldom not valid: l04Bent. Condition: few choices so far. -/
import Derived.Test.YtndfhmphlomeiaaGreatDoorQd
import Derived.Test.YtndfhmphlomeiaaGreatDoorQm
import Derived.Test.YtndfhmphlomeiaaGreatDoorK4
set_option linter.unusedSimpArgs false
namespace Go.Proofs.YtndfhmphlomeiaaGreatDoor
open Go.RowKit
/-- What stands when the grammar is handed back. -/
structure EndB (w w' : World) (gb g : Nat) (bs : List UInt8) (k : Nat) (v1 v2 : Value) : Prop where
  box : BoxG w' gb v1 v2
  res : w'.heap[w.heap.size]? = some (.cells #[.slice none 0 0, .slice none 0 0] 27 (0, 0))
  read : ∃ x, GraW w' (w.heap.size + 1) w'.heap.size (.agg #[v1, v2]) x ∧ GraN x
  src : ∃ k', k' ≤ k + 2000 ∧ SrcW w' g bs k'
  kept : Kept g (g + 1) w w'
/-- What is drawn. -/
def BentG (B : Nat) (w' : World) (v1 v2 : Value) (g : Nat) (bs : List UInt8) (k : Nat) : Prop := (∃ x, GraW w' B w'.heap.size (.agg #[v1, v2]) x ∧ GraN x) ∧ ∃ k', k' ≤ k + 2000 ∧ SrcW w' g bs k'
theorem EndB.done {w w' : World} {gb g bs k v1 v2} (h : EndB w w' gb g bs k v1 v2) (hg : g < w.heap.size) :
    ((w'.setCell ⟨w.heap.size, 0, none⟩ v1).setCell ⟨w.heap.size, 1, none⟩ v2).heap[w.heap.size]? = some (.cells #[v1, v2] 27 (0, 0)) ∧
    BentG w.heap.size ((w'.setCell ⟨w.heap.size, 0, none⟩ v1).setCell ⟨w.heap.size, 1, none⟩ v2) v1 v2 g bs k ∧ Kept g (g + 1) w ((w'.setCell ⟨w.heap.size, 0, none⟩ v1).setCell ⟨w.heap.size, 1, none⟩ v2) := by
  have st := store2 h.res v1 v2
  obtain ⟨x, hx, hn⟩ := h.read
  obtain ⟨k', hk, hs⟩ := h.src
  have hz := h.kept.size
  refine ⟨st.1, ⟨⟨x, (hx.kept st.2.1 (.inr (Nat.le_refl _))).mono (Nat.le_succ _) (by rw [st.2.2]; exact Nat.le_refl _), hn⟩, k', hk, hs.low (st.2.1.below (by omega) (by omega))⟩, h.kept.then_new st.2.1 (Nat.le_refl _)⟩
theorem last_ne {us : List Value} {gb : Nat} (h : ∀ j (_ : j < us.length) q, us[j].ownBlock = some q → q < gb) : ∀ j (_ : j < (us ++ [Value.slice none 0 0]).length) k, (us ++ [Value.slice none 0 0])[j].ownBlock = some k → k ≠ gb := fun j hj q e => by
  rcases Nat.lt_or_ge j us.length with hl | hl
  · rw [List.getElem_append_left hl] at e
    have := h j hl q e
    omega
  · have hj2 : j = us.length := by simp at hj; omega
    subst hj2
    simp [Value.ownBlock] at e
attribute [local irreducible] Calls
set_option maxHeartbeats 16000000 in
set_option maxRecDepth 100000 in
theorem l04Bent_any (g : Nat) (bs : List UInt8) (k : Nat) (w : World) (hs : SrcW w g bs k) (hk : k ≤ 10000) :
    Calls Tryz.prog 18 #[.pointer (some ⟨g, 0, none⟩)] w fun e w' => ∃ v1 v2 : Value, e = .returned (.agg #[v1, v2]) ∧ BentG w.heap.size w' v1 v2 g bs k ∧ Kept g (g + 1) w w' := by
  have hgl := hs.lt
  have hb0 := one_belowQ w (.cells #[.slice none 0 0, .slice none 0 0] 27)
  have HB0 := Lib.hid hb0
  have rA := heap_alloc_new w (.cells #[.slice none 0 0, .slice none 0 0] 27)
  have hz0 : (w.alloc (.cells #[.slice none 0 0, .slice none 0 0] 27)).heap.size = w.heap.size + 1 := by simp
  go_enter Tryz.func18, Tryz.ntmps18
  go_wp2_with fail
  refine (l04Draw_any g bs k _ (hs.below hb0) hk).mono ?_
  rintro e w1 ⟨v1, v2, rfl, ⟨x, us, k1, hg1, hS1, hxa, hxs, hk1, hs1⟩, hkk1⟩
  have hkk1 : Kept g (g + 1) (w.alloc (.cells #[.slice none 0 0, .slice none 0 0] 27)) w1 := hkk1
  have hz1 := hkk1.size
  rw [hz0] at hz1
  rw [hz0] at hg1
  obtain ⟨a1, c1, a2, c2, e1, e2⟩ := hg1.shape
  subst e1 e2
  have hb2 := one_belowQ w1 (.cells #[(.slice a1 x.affixes.length c1), (.slice a2 x.stems.length c2)] 27)
  have HN1 := Lib.hid hS1.n
  have HSx := Lib.hid hS1
  have HGa := Lib.hid hg1
  have HSa := Lib.hid (hs1.below hb2)
  have HR2 := Lib.hid ((hb2.block w.heap.size (by omega)).trans ((hkk1.block w.heap.size (by omega) (.inr (by omega))).trans rA))
  have HX2 : Hid (BoxG (w1.alloc (.cells #[(.slice a1 x.affixes.length c1), (.slice a2 x.stems.length c2)] 27)) w1.heap.size (.slice a1 x.affixes.length c1) (.slice a2 x.stems.length c2)) := Lib.hid (heap_alloc_new w1 (.cells #[(.slice a1 x.affixes.length c1), (.slice a2 x.stems.length c2)] 27))
  have HG2 := Lib.hid (hg1.below hb2)
  have HK2 := Lib.hid (((Kept.of_below (lo := g) (hi := g + 1) HB0.out).trans hkk1).trans (Kept.of_below hb2))
  have hz2 : (w1.alloc (.cells #[(.slice a1 x.affixes.length c1), (.slice a2 x.stems.length c2)] 27)).heap.size = w1.heap.size + 1 := by simp
  clear hs hb0 rA hg1 hS1 hs1 hkk1 hb2
  go_wp2_with fail
  refine (pick_any g bs k1 24 _ _ HSa.out (by omega) rfl (by omega)).mono ?_
  rintro e w3 ⟨r, k3, rfl, hr, hk3, hs3, hkk3⟩
  have hkk3 : Kept g (g + 1) (w1.alloc (.cells #[(.slice a1 x.affixes.length c1), (.slice a2 x.stems.length c2)] 27)) w3 := hkk3
  have hz3 := hkk3.size
  rw [hz2] at hz3
  have HR3 := Lib.hid ((hkk3.block w.heap.size (by omega) (.inr (by omega))).trans HR2.out)
  have HX3 := Lib.hid (HX2.out.kept hkk3 (.inr (by omega)))
  have HG3 := Lib.hid (HG2.out.kept hkk3 (by omega))
  have HK3 := Lib.hid (HK2.out.trans hkk3)
  have HS3 := Lib.hid hs3
  have HL1 := Lib.hid (fun q (e : (Value.slice a1 x.affixes.length c1).ownBlock = some q) => (HGa.out.lt1 e).2)
  have HL2 := Lib.hid (fun q (e : (Value.slice a2 x.stems.length c2).ownBlock = some q) => (HGa.out.lt2 e).2)
  have HLu := Lib.hid (fun j (hj : j < us.length) q (e : us[j].ownBlock = some q) => (HGa.out.ltu hj e).2)
  have HNx := Lib.hid HN1.out
  have hxa : x.affixes.length ≤ 50 := by omega
  have hxs : x.stems.length ≤ 50 := by omega
  have hk3 : k3 ≤ k + 1010 := by omega
  generalize hgb : w1.heap.size = gb at *
  clear HR2 HX2 HG2 HK2 hkk3 hs3 HSa
  by_cases r0 : r = 0
  · have hrI : (r : Int) = 0 := by omega
    rw [hrI]
    clear hrI hr
    obtain ⟨x3, y3⟩ := HX3.out.c0
    have c3d : w3.drew.cell? ⟨gb, 0, none⟩ = some (.slice a1 x.affixes.length c1) := x3
    go_upto_region 4 with fail
    refine wp_region_held_drew (S := (fun _ => True)) (by kernel_rfl) ?_ (fun hHeld => ?_)
    · trivial
    refine wpAnyH_take (i := 0) (v := ?v1) rfl (by kernel_rfl) (by kernel_rfl) (by kernel_rfl) (fun _ _ _ h => h) (Or.inl ⟨by kernel_rfl, ?hy1⟩) (by assumption) ?_
    case hy1 => (intro w9 hS9; (try dsimp only at hS9); go_simp; (try with_reducible rfl))
    try simp only [Act.put, List.getElem_toArray, List.getElem_cons_succ, List.getElem_cons_zero, List.setIfInBounds_toArray, List.set_cons_zero, List.set_cons_succ]
    refine wpAnyH_take (i := 2) (v := ?v2) rfl (by kernel_rfl) (by kernel_rfl) (by kernel_rfl) (fun _ _ _ h => h) (Or.inl ⟨by kernel_rfl, ?hy2⟩) (by assumption) ?_
    case hy2 => (intro w9 hS9; (try dsimp only at hS9); go_simp; (try with_reducible rfl))
    try simp only [Act.put, List.getElem_toArray, List.getElem_cons_succ, List.getElem_cons_zero, List.setIfInBounds_toArray, List.set_cons_zero, List.set_cons_succ]
    refine wpAnyH_ready (rs := [1, 3]) (by kernel_rfl) (by simp) ?_
    refine AllReadyH.cons rfl (fun K9 hK9 => ?_) (AllReadyH.cons rfl (fun K9 hK9 => ?_) (AllReadyH.nil))
    · rw [if_pos (by rfl)]
      go_simp
      refine hK9.out _ _ (trivial) (fun hHeld2 => ?_)
      clear hK9 K9
      try simp only [Act.put, List.getElem_toArray, List.getElem_cons_succ, List.getElem_cons_zero, List.setIfInBounds_toArray, List.set_cons_zero, List.set_cons_succ]
      refine wpAnyH_ready (rs := [3]) (by kernel_rfl) (by simp) ?_
      refine AllReadyH.cons rfl (fun K9 hK9 => ?_) AllReadyH.nil
      rw [if_pos (by rfl)]
      go_wp2_with (go_at_call 46; refine (bentAffix_any g bs k3 _ (HS3.out.below (below_drewN (Below.refl _ _) 1)) (by omega)).mono ?_; rintro e w6 ⟨y, k6, rfl, hy, hk6, hs6, hkk6⟩)
      have hkk6 : Kept g (g + 1) w3 w6 := (Kept.of_below (below_drewN (Below.refl _ _) 1)).trans hkk6
      have hz6 := hkk6.size
      have HX6 := Lib.hid (HX3.out.kept hkk6 (.inr (by omega)))
      have HG6 := Lib.hid (HG3.out.kept hkk6 (by omega))
      have HR6 := Lib.hid ((hkk6.block w.heap.size (by omega) (.inr (by omega))).trans HR3.out)
      have HK6 := Lib.hid (HK3.out.trans hkk6)
      have HS6 := Lib.hid hs6
      have c6 := HX6.out.c0.1
      refine hK9.out _ _ (trivial) (fun hHeld3 => ?_)
      clear hK9 K9
      try simp only [Act.put, List.getElem_toArray, List.getElem_cons_succ, List.getElem_cons_zero, List.setIfInBounds_toArray, List.set_cons_zero, List.set_cons_succ]
      refine wpAnyH_ready (rs := [4]) (by kernel_rfl) (by simp) ?_
      refine AllReadyH.cons rfl (fun K9 hK9 => ?_) AllReadyH.nil
      rw [if_pos (by rfl)]
      have c6a := cell_allocQ (.cells #[.string y.name, .bool y.front, .string y.cond, .string y.strip, .string y.add] 51) c6
      go_simp
      refine hK9.out _ _ (trivial) (fun hHeld4 => ?_)
      clear hK9 K9
      try simp only [Act.put, List.getElem_toArray, List.getElem_cons_succ, List.getElem_cons_zero, List.setIfInBounds_toArray, List.set_cons_zero, List.set_cons_succ]
      refine wpAnyH_ready (rs := [5]) (by kernel_rfl) (by simp) ?_
      refine AllReadyH.cons rfl (fun K9 hK9 => ?_) AllReadyH.nil
      have hal := one_belowQ w6 (.cells (affV y) 51)
      have hzl := hal.size
      have hBl : w.heap.size + 1 ≤ (w6.alloc (.cells (affV y) 51)).heap.size := by omega
      refine GO.step_affix ?_ (.tmp 13) (.tmp 16) ?_ (HG6.out.below hal) hBl (by omega) y w6.heap.size ?_ ?_ (heap_alloc_new w6 _) ?_; rfl; rfl; rfl; rfl
      intro gn cap w8 hg8 hgr8 hloc8
      have hgr8 : (w6.alloc (.cells (affV y) 51)).grownBy w8 (Value.slice a1 x.affixes.length c1).ownBlock := hgr8
      have hloc8 : (Value.slice a1 x.affixes.length c1).ownBlock = some gn ∨ gn = (w6.alloc (.cells (affV y) 51)).heap.size := hloc8
      have HX8 := Lib.hid ((HX6.out.below hal).grownNe hgr8 (fun q hq => by have := HL1.out q hq; omega))
      obtain ⟨x8, y8⟩ := HX8.out.c0
      refine hK9.out _ _ (trivial) (fun hHeld5 => ?_)
      clear hK9 K9
      try simp only [Act.put, List.getElem_toArray, List.getElem_cons_succ, List.getElem_cons_zero, List.setIfInBounds_toArray, List.set_cons_zero, List.set_cons_succ]
      refine wpAnyH_take (i := 6) (v := ?v3) rfl (by kernel_rfl) (by kernel_rfl) (by kernel_rfl) (fun _ _ _ h => h) (Or.inl ⟨by kernel_rfl, ?hy3⟩) (by assumption) ?_
      case hy3 => (intro w9 hS9; (try dsimp only at hS9); go_simp; (try with_reducible rfl))
      try simp only [Act.put, List.getElem_toArray, List.getElem_cons_succ, List.getElem_cons_zero, List.setIfInBounds_toArray, List.set_cons_zero, List.set_cons_succ]
      refine wpAnyH_ready (rs := [7]) (by kernel_rfl) (by simp) ?_
      refine AllReadyH.cons rfl (fun K9 hK9 => ?_) AllReadyH.nil
      rw [if_pos (by rfl)]
      go_simp
      refine hK9.out _ _ (trivial) (fun hHeld6 => ?_)
      clear hK9 K9
      try simp only [Act.put, List.getElem_toArray, List.getElem_cons_succ, List.getElem_cons_zero, List.setIfInBounds_toArray, List.set_cons_zero, List.set_cons_succ]
      refine wpAnyH_done (by kernel_rfl) ?_ _
      have hgn : gn ≠ gb := hloc8.elim (fun h => by have := HL1.out gn h; omega) (fun h => by omega)
      have hR8 := (hgr8.block w.heap.size (by omega) (fun e => by have := (HG6.out.lt1 e.symm).1; omega)).trans ((hal.block w.heap.size (by omega)).trans HR6.out)
      have HEnd : Hid (EndB w (w8.setCell ⟨gb, 0, none⟩ (.slice (some ⟨gn, 0, none⟩) (x.affixes.length + 1) cap)) gb g bs k (.slice (some ⟨gn, 0, none⟩) (x.affixes.length + 1) cap) (.slice a2 x.stems.length c2)) := Lib.hid ⟨HX8.out.set0 _, (Below.heap_setCell _ _ _ _ (by show w.heap.size ≠ gb; omega)).trans hR8, ⟨_, (hg8.setNe (g := gb) (i := 0) (u := (.slice (some ⟨gn, 0, none⟩) (x.affixes.length + 1) cap)) (fun q e => by have e : gn = q := Option.some.inj e; omega) (fun q e => by have := HL2.out q e; omega) (fun j hj q e => by have := HLu.out j hj q e; omega)).graW (HNx.out.affix (hy.mono (max12 (by decide))) (by omega)), HNx.out.affix (hy.mono (max12 (by decide))) (by omega)⟩, ⟨k6, by omega, HS6.out.low (((hal.mono (by omega)).grown hgr8 (by omega) (fun q hq => by have := (HG6.out.lt1 hq).1; omega)).setCell (p := ⟨gb, 0, none⟩) (by show g + 1 ≤ gb; omega) _)⟩, ((HK6.out.trans (Kept.of_below hal)).then_grown hgr8 (fun q hq => by have := (HG6.out.lt1 hq).1; omega)).set_new (by omega)⟩
      clear hg8 hgr8 hloc8 hR8 x8 y8
      obtain ⟨x0, y0⟩ := HEnd.out.box.c0
      obtain ⟨x1, y1⟩ := HEnd.out.box.c1
      obtain ⟨d0, q0⟩ := src_cell (i := 0) (v := .slice none 0 0) HEnd.out.res rfl
      obtain ⟨d1, q1⟩ := src_cell (i := 1) (v := .slice none 0 0) HEnd.out.res rfl
      go_wp2
      obtain ⟨st, hbe, hke⟩ := HEnd.out.done hgl
      exact bodyPost_ret (v := .agg #[(.slice (some ⟨gn, 0, none⟩) (x.affixes.length + 1) cap), (.slice a2 x.stems.length c2)]) (results_cell_row (p := 2) (ty := 27) rfl _ _ w.heap.size _ _ _ _ rfl st Tryz.underlying27 rfl infoGra) rfl ⟨_, _, rfl, hbe, hke⟩
    · rw [if_pos (by rfl)]
      go_wp2_with (go_at_call 46; refine (bentAffix_any g bs k3 _ (HS3.out.below (below_drewN (Below.refl _ _) 1)) (by omega)).mono ?_; rintro e w6 ⟨y, k6, rfl, hy, hk6, hs6, hkk6⟩)
      have hkk6 : Kept g (g + 1) w3 w6 := (Kept.of_below (below_drewN (Below.refl _ _) 1)).trans hkk6
      have hz6 := hkk6.size
      have HX6 := Lib.hid (HX3.out.kept hkk6 (.inr (by omega)))
      have HG6 := Lib.hid (HG3.out.kept hkk6 (by omega))
      have HR6 := Lib.hid ((hkk6.block w.heap.size (by omega) (.inr (by omega))).trans HR3.out)
      have HK6 := Lib.hid (HK3.out.trans hkk6)
      have HS6 := Lib.hid hs6
      have c6 := HX6.out.c0.1
      refine hK9.out _ _ (trivial) (fun hHeld2 => ?_)
      clear hK9 K9
      try simp only [Act.put, List.getElem_toArray, List.getElem_cons_succ, List.getElem_cons_zero, List.setIfInBounds_toArray, List.set_cons_zero, List.set_cons_succ]
      refine wpAnyH_ready (rs := [1, 4]) (by kernel_rfl) (by simp) ?_
      refine AllReadyH.cons rfl (fun K9 hK9 => ?_) (AllReadyH.cons rfl (fun K9 hK9 => ?_) (AllReadyH.nil))
      · rw [if_pos (by rfl)]
        go_simp
        refine hK9.out _ _ (trivial) (fun hHeld3 => ?_)
        clear hK9 K9
        try simp only [Act.put, List.getElem_toArray, List.getElem_cons_succ, List.getElem_cons_zero, List.setIfInBounds_toArray, List.set_cons_zero, List.set_cons_succ]
        refine wpAnyH_ready (rs := [4]) (by kernel_rfl) (by simp) ?_
        refine AllReadyH.cons rfl (fun K9 hK9 => ?_) AllReadyH.nil
        rw [if_pos (by rfl)]
        have c6a := cell_allocQ (.cells #[.string y.name, .bool y.front, .string y.cond, .string y.strip, .string y.add] 51) c6
        go_simp
        refine hK9.out _ _ (trivial) (fun hHeld4 => ?_)
        clear hK9 K9
        try simp only [Act.put, List.getElem_toArray, List.getElem_cons_succ, List.getElem_cons_zero, List.setIfInBounds_toArray, List.set_cons_zero, List.set_cons_succ]
        refine wpAnyH_ready (rs := [5]) (by kernel_rfl) (by simp) ?_
        refine AllReadyH.cons rfl (fun K9 hK9 => ?_) AllReadyH.nil
        have hal := one_belowQ w6 (.cells (affV y) 51)
        have hzl := hal.size
        have hBl : w.heap.size + 1 ≤ (w6.alloc (.cells (affV y) 51)).heap.size := by omega
        refine GO.step_affix ?_ (.tmp 13) (.tmp 16) ?_ (HG6.out.below hal) hBl (by omega) y w6.heap.size ?_ ?_ (heap_alloc_new w6 _) ?_; rfl; rfl; rfl; rfl
        intro gn cap w8 hg8 hgr8 hloc8
        have hgr8 : (w6.alloc (.cells (affV y) 51)).grownBy w8 (Value.slice a1 x.affixes.length c1).ownBlock := hgr8
        have hloc8 : (Value.slice a1 x.affixes.length c1).ownBlock = some gn ∨ gn = (w6.alloc (.cells (affV y) 51)).heap.size := hloc8
        have HX8 := Lib.hid ((HX6.out.below hal).grownNe hgr8 (fun q hq => by have := HL1.out q hq; omega))
        obtain ⟨x8, y8⟩ := HX8.out.c0
        refine hK9.out _ _ (trivial) (fun hHeld5 => ?_)
        clear hK9 K9
        try simp only [Act.put, List.getElem_toArray, List.getElem_cons_succ, List.getElem_cons_zero, List.setIfInBounds_toArray, List.set_cons_zero, List.set_cons_succ]
        refine wpAnyH_take (i := 6) (v := ?v4) rfl (by kernel_rfl) (by kernel_rfl) (by kernel_rfl) (fun _ _ _ h => h) (Or.inl ⟨by kernel_rfl, ?hy4⟩) (by assumption) ?_
        case hy4 => (intro w9 hS9; (try dsimp only at hS9); go_simp; (try with_reducible rfl))
        try simp only [Act.put, List.getElem_toArray, List.getElem_cons_succ, List.getElem_cons_zero, List.setIfInBounds_toArray, List.set_cons_zero, List.set_cons_succ]
        refine wpAnyH_ready (rs := [7]) (by kernel_rfl) (by simp) ?_
        refine AllReadyH.cons rfl (fun K9 hK9 => ?_) AllReadyH.nil
        rw [if_pos (by rfl)]
        go_simp
        refine hK9.out _ _ (trivial) (fun hHeld6 => ?_)
        clear hK9 K9
        try simp only [Act.put, List.getElem_toArray, List.getElem_cons_succ, List.getElem_cons_zero, List.setIfInBounds_toArray, List.set_cons_zero, List.set_cons_succ]
        refine wpAnyH_done (by kernel_rfl) ?_ _
        have hgn : gn ≠ gb := hloc8.elim (fun h => by have := HL1.out gn h; omega) (fun h => by omega)
        have hR8 := (hgr8.block w.heap.size (by omega) (fun e => by have := (HG6.out.lt1 e.symm).1; omega)).trans ((hal.block w.heap.size (by omega)).trans HR6.out)
        have HEnd : Hid (EndB w (w8.setCell ⟨gb, 0, none⟩ (.slice (some ⟨gn, 0, none⟩) (x.affixes.length + 1) cap)) gb g bs k (.slice (some ⟨gn, 0, none⟩) (x.affixes.length + 1) cap) (.slice a2 x.stems.length c2)) := Lib.hid ⟨HX8.out.set0 _, (Below.heap_setCell _ _ _ _ (by show w.heap.size ≠ gb; omega)).trans hR8, ⟨_, (hg8.setNe (g := gb) (i := 0) (u := (.slice (some ⟨gn, 0, none⟩) (x.affixes.length + 1) cap)) (fun q e => by have e : gn = q := Option.some.inj e; omega) (fun q e => by have := HL2.out q e; omega) (fun j hj q e => by have := HLu.out j hj q e; omega)).graW (HNx.out.affix (hy.mono (max12 (by decide))) (by omega)), HNx.out.affix (hy.mono (max12 (by decide))) (by omega)⟩, ⟨k6, by omega, HS6.out.low (((hal.mono (by omega)).grown hgr8 (by omega) (fun q hq => by have := (HG6.out.lt1 hq).1; omega)).setCell (p := ⟨gb, 0, none⟩) (by show g + 1 ≤ gb; omega) _)⟩, ((HK6.out.trans (Kept.of_below hal)).then_grown hgr8 (fun q hq => by have := (HG6.out.lt1 hq).1; omega)).set_new (by omega)⟩
        clear hg8 hgr8 hloc8 hR8 x8 y8
        obtain ⟨x0, y0⟩ := HEnd.out.box.c0
        obtain ⟨x1, y1⟩ := HEnd.out.box.c1
        obtain ⟨d0, q0⟩ := src_cell (i := 0) (v := .slice none 0 0) HEnd.out.res rfl
        obtain ⟨d1, q1⟩ := src_cell (i := 1) (v := .slice none 0 0) HEnd.out.res rfl
        go_wp2
        obtain ⟨st, hbe, hke⟩ := HEnd.out.done hgl
        exact bodyPost_ret (v := .agg #[(.slice (some ⟨gn, 0, none⟩) (x.affixes.length + 1) cap), (.slice a2 x.stems.length c2)]) (results_cell_row (p := 2) (ty := 27) rfl _ _ w.heap.size _ _ _ _ rfl st Tryz.underlying27 rfl infoGra) rfl ⟨_, _, rfl, hbe, hke⟩
      · rw [if_pos (by rfl)]
        have c6a := cell_allocQ (.cells #[.string y.name, .bool y.front, .string y.cond, .string y.strip, .string y.add] 51) c6
        go_simp
        refine hK9.out _ _ (trivial) (fun hHeld3 => ?_)
        clear hK9 K9
        try simp only [Act.put, List.getElem_toArray, List.getElem_cons_succ, List.getElem_cons_zero, List.setIfInBounds_toArray, List.set_cons_zero, List.set_cons_succ]
        refine wpAnyH_ready (rs := [1]) (by kernel_rfl) (by simp) ?_
        refine AllReadyH.cons rfl (fun K9 hK9 => ?_) AllReadyH.nil
        rw [if_pos (by rfl)]
        go_simp
        refine hK9.out _ _ (trivial) (fun hHeld4 => ?_)
        clear hK9 K9
        try simp only [Act.put, List.getElem_toArray, List.getElem_cons_succ, List.getElem_cons_zero, List.setIfInBounds_toArray, List.set_cons_zero, List.set_cons_succ]
        refine wpAnyH_ready (rs := [5]) (by kernel_rfl) (by simp) ?_
        refine AllReadyH.cons rfl (fun K9 hK9 => ?_) AllReadyH.nil
        have hal := one_belowQ w6 (.cells (affV y) 51)
        have hzl := hal.size
        have hBl : w.heap.size + 1 ≤ (w6.alloc (.cells (affV y) 51)).heap.size := by omega
        refine GO.step_affix ?_ (.tmp 13) (.tmp 16) ?_ (HG6.out.below hal) hBl (by omega) y w6.heap.size ?_ ?_ (heap_alloc_new w6 _) ?_; rfl; rfl; rfl; rfl
        intro gn cap w8 hg8 hgr8 hloc8
        have hgr8 : (w6.alloc (.cells (affV y) 51)).grownBy w8 (Value.slice a1 x.affixes.length c1).ownBlock := hgr8
        have hloc8 : (Value.slice a1 x.affixes.length c1).ownBlock = some gn ∨ gn = (w6.alloc (.cells (affV y) 51)).heap.size := hloc8
        have HX8 := Lib.hid ((HX6.out.below hal).grownNe hgr8 (fun q hq => by have := HL1.out q hq; omega))
        obtain ⟨x8, y8⟩ := HX8.out.c0
        refine hK9.out _ _ (trivial) (fun hHeld5 => ?_)
        clear hK9 K9
        try simp only [Act.put, List.getElem_toArray, List.getElem_cons_succ, List.getElem_cons_zero, List.setIfInBounds_toArray, List.set_cons_zero, List.set_cons_succ]
        refine wpAnyH_take (i := 6) (v := ?v5) rfl (by kernel_rfl) (by kernel_rfl) (by kernel_rfl) (fun _ _ _ h => h) (Or.inl ⟨by kernel_rfl, ?hy5⟩) (by assumption) ?_
        case hy5 => (intro w9 hS9; (try dsimp only at hS9); go_simp; (try with_reducible rfl))
        try simp only [Act.put, List.getElem_toArray, List.getElem_cons_succ, List.getElem_cons_zero, List.setIfInBounds_toArray, List.set_cons_zero, List.set_cons_succ]
        refine wpAnyH_ready (rs := [7]) (by kernel_rfl) (by simp) ?_
        refine AllReadyH.cons rfl (fun K9 hK9 => ?_) AllReadyH.nil
        rw [if_pos (by rfl)]
        go_simp
        refine hK9.out _ _ (trivial) (fun hHeld6 => ?_)
        clear hK9 K9
        try simp only [Act.put, List.getElem_toArray, List.getElem_cons_succ, List.getElem_cons_zero, List.setIfInBounds_toArray, List.set_cons_zero, List.set_cons_succ]
        refine wpAnyH_done (by kernel_rfl) ?_ _
        have hgn : gn ≠ gb := hloc8.elim (fun h => by have := HL1.out gn h; omega) (fun h => by omega)
        have hR8 := (hgr8.block w.heap.size (by omega) (fun e => by have := (HG6.out.lt1 e.symm).1; omega)).trans ((hal.block w.heap.size (by omega)).trans HR6.out)
        have HEnd : Hid (EndB w (w8.setCell ⟨gb, 0, none⟩ (.slice (some ⟨gn, 0, none⟩) (x.affixes.length + 1) cap)) gb g bs k (.slice (some ⟨gn, 0, none⟩) (x.affixes.length + 1) cap) (.slice a2 x.stems.length c2)) := Lib.hid ⟨HX8.out.set0 _, (Below.heap_setCell _ _ _ _ (by show w.heap.size ≠ gb; omega)).trans hR8, ⟨_, (hg8.setNe (g := gb) (i := 0) (u := (.slice (some ⟨gn, 0, none⟩) (x.affixes.length + 1) cap)) (fun q e => by have e : gn = q := Option.some.inj e; omega) (fun q e => by have := HL2.out q e; omega) (fun j hj q e => by have := HLu.out j hj q e; omega)).graW (HNx.out.affix (hy.mono (max12 (by decide))) (by omega)), HNx.out.affix (hy.mono (max12 (by decide))) (by omega)⟩, ⟨k6, by omega, HS6.out.low (((hal.mono (by omega)).grown hgr8 (by omega) (fun q hq => by have := (HG6.out.lt1 hq).1; omega)).setCell (p := ⟨gb, 0, none⟩) (by show g + 1 ≤ gb; omega) _)⟩, ((HK6.out.trans (Kept.of_below hal)).then_grown hgr8 (fun q hq => by have := (HG6.out.lt1 hq).1; omega)).set_new (by omega)⟩
        clear hg8 hgr8 hloc8 hR8 x8 y8
        obtain ⟨x0, y0⟩ := HEnd.out.box.c0
        obtain ⟨x1, y1⟩ := HEnd.out.box.c1
        obtain ⟨d0, q0⟩ := src_cell (i := 0) (v := .slice none 0 0) HEnd.out.res rfl
        obtain ⟨d1, q1⟩ := src_cell (i := 1) (v := .slice none 0 0) HEnd.out.res rfl
        go_wp2
        obtain ⟨st, hbe, hke⟩ := HEnd.out.done hgl
        exact bodyPost_ret (v := .agg #[(.slice (some ⟨gn, 0, none⟩) (x.affixes.length + 1) cap), (.slice a2 x.stems.length c2)]) (results_cell_row (p := 2) (ty := 27) rfl _ _ w.heap.size _ _ _ _ rfl st Tryz.underlying27 rfl infoGra) rfl ⟨_, _, rfl, hbe, hke⟩
  · by_cases r1 : r = 1
    · have hrI : (r : Int) = 1 := by omega
      rw [hrI]
      clear hrI hr
      obtain ⟨x3, y3⟩ := HX3.out.c1
      have c3d : w3.drew.cell? ⟨gb, 1, none⟩ = some (.slice a2 x.stems.length c2) := x3
      have hbL : Below w3.heap.size w3 (w3.drew.alloc (.cells (([⟨#[97]⟩, ⟨#[122, 122]⟩, ⟨#[97, 110]⟩, ⟨#[90, 122]⟩] : List ByteArray).map Value.string).toArray 9)) := (Below.refl w3.heap.size w3).drew.trans (one_belowQ w3.drew (.cells (([⟨#[97]⟩, ⟨#[122, 122]⟩, ⟨#[97, 110]⟩, ⟨#[90, 122]⟩] : List ByteArray).map Value.string).toArray 9))
      have hstL := strs_built w3.drew ([⟨#[97]⟩, ⟨#[122, 122]⟩, ⟨#[97, 110]⟩, ⟨#[90, 122]⟩] : List ByteArray) (by decide)
      go_upto_region 6 with fail
      refine wp_region_held_drew (S := (fun _ => True)) (by kernel_rfl) ?_ (fun hHeld => ?_)
      · trivial
      refine wpAnyH_take (i := 0) (v := ?v6) rfl (by kernel_rfl) (by kernel_rfl) (by kernel_rfl) (fun _ _ _ h => h) (Or.inl ⟨by kernel_rfl, ?hy6⟩) (by assumption) ?_
      case hy6 => (intro w9 hS9; (try dsimp only at hS9); go_simp; (try with_reducible rfl))
      try simp only [Act.put, List.getElem_toArray, List.getElem_cons_succ, List.getElem_cons_zero, List.setIfInBounds_toArray, List.set_cons_zero, List.set_cons_succ]
      refine wpAnyH_take (i := 2) (v := ?v7) rfl (by kernel_rfl) (by kernel_rfl) (by kernel_rfl) (fun _ _ _ h => h) (Or.inl ⟨by kernel_rfl, ?hy7⟩) (by assumption) ?_
      case hy7 => (intro w9 hS9; (try dsimp only at hS9); go_simp; (try with_reducible rfl))
      try simp only [Act.put, List.getElem_toArray, List.getElem_cons_succ, List.getElem_cons_zero, List.setIfInBounds_toArray, List.set_cons_zero, List.set_cons_succ]
      refine wpAnyH_ready (rs := [1, 3]) (by kernel_rfl) (by simp) ?_
      refine AllReadyH.cons rfl (fun K9 hK9 => ?_) (AllReadyH.cons rfl (fun K9 hK9 => ?_) (AllReadyH.nil))
      · rw [if_pos (by rfl)]
        go_simp
        refine hK9.out _ _ (trivial) (fun hHeld2 => ?_)
        clear hK9 K9
        try simp only [Act.put, List.getElem_toArray, List.getElem_cons_succ, List.getElem_cons_zero, List.setIfInBounds_toArray, List.set_cons_zero, List.set_cons_succ]
        refine wpAnyH_ready (rs := [3]) (by kernel_rfl) (by simp) ?_
        refine AllReadyH.cons rfl (fun K9 hK9 => ?_) AllReadyH.nil
        rw [if_pos (by rfl)]
        have c3a : (w3.alloc (.cells #[.string ⟨#[97]⟩, .string ⟨#[122, 122]⟩, .string ⟨#[97, 110]⟩, .string ⟨#[90, 122]⟩] 9)).cell? ⟨gb, 1, none⟩ = some (.slice a2 x.stems.length c2) := cell_allocQ _ x3
        go_simp
        refine hK9.out _ _ (trivial) (fun hHeld3 => ?_)
        clear hK9 K9
        try simp only [Act.put, List.getElem_toArray, List.getElem_cons_succ, List.getElem_cons_zero, List.setIfInBounds_toArray, List.set_cons_zero, List.set_cons_succ]
        refine wpAnyH_ready (rs := [4]) (by kernel_rfl) (by simp) ?_
        refine AllReadyH.cons rfl (fun K9 hK9 => ?_) AllReadyH.nil
        rw [if_pos (by rfl)]
        go_wp2_with (go_at_call 36; refine (text_any g bs k3 _ ([⟨#[97]⟩, ⟨#[122, 122]⟩, ⟨#[97, 110]⟩, ⟨#[90, 122]⟩] : List ByteArray) _ (HS3.out.below hbL) (by omega) hstL (by decide) (by decide) (fun a n c e p hp => by cases e; cases hp; show w3.heap.size ≠ g; omega)).mono ?_; rintro e w6 ⟨t, k6, rfl, htm, hk6, hs6, hkk6⟩)
        have hkk6 : Kept g (g + 1) w3 w6 := (Kept.of_below hbL).trans hkk6
        have ht12 : t.size ≤ 12 := (by decide : ∀ s ∈ ([⟨#[97]⟩, ⟨#[122, 122]⟩, ⟨#[97, 110]⟩, ⟨#[90, 122]⟩] : List ByteArray), s.size ≤ 12) t htm
        have hz6 := hkk6.size
        have HX6 := Lib.hid (HX3.out.kept hkk6 (.inr (by omega)))
        have HG6 := Lib.hid (HG3.out.kept hkk6 (by omega))
        have HR6 := Lib.hid ((hkk6.block w.heap.size (by omega) (.inr (by omega))).trans HR3.out)
        have HK6 := Lib.hid (HK3.out.trans hkk6)
        have HS6 := Lib.hid hs6
        have c6 := HX6.out.c1.1
        refine hK9.out _ _ (trivial) (fun hHeld4 => ?_)
        clear hK9 K9
        try simp only [Act.put, List.getElem_toArray, List.getElem_cons_succ, List.getElem_cons_zero, List.setIfInBounds_toArray, List.set_cons_zero, List.set_cons_succ]
        refine wpAnyH_take (i := 5) (v := ?v8) rfl (by kernel_rfl) (by kernel_rfl) (by kernel_rfl) (fun _ _ _ h => h) (Or.inl ⟨by kernel_rfl, ?hy8⟩) (by assumption) ?_
        case hy8 => (intro w9 hS9; (try dsimp only at hS9); go_simp; (try with_reducible rfl))
        try simp only [Act.put, List.getElem_toArray, List.getElem_cons_succ, List.getElem_cons_zero, List.setIfInBounds_toArray, List.set_cons_zero, List.set_cons_succ]
        refine wpAnyH_ready (rs := [6]) (by kernel_rfl) (by simp) ?_
        refine AllReadyH.cons rfl (fun K9 hK9 => ?_) AllReadyH.nil
        rw [if_pos (by rfl)]
        have c6a := cell_allocQ (.cells #[.string t, .slice none 0 0] 59) c6
        go_simp
        refine hK9.out _ _ (trivial) (fun hHeld5 => ?_)
        clear hK9 K9
        try simp only [Act.put, List.getElem_toArray, List.getElem_cons_succ, List.getElem_cons_zero, List.setIfInBounds_toArray, List.set_cons_zero, List.set_cons_succ]
        refine wpAnyH_ready (rs := [7]) (by kernel_rfl) (by simp) ?_
        refine AllReadyH.cons rfl (fun K9 hK9 => ?_) AllReadyH.nil
        have hal := one_belowQ w6 (.cells #[.string t, .slice none 0 0] 59)
        have hzl := hal.size
        have hBl : w.heap.size + 1 ≤ (w6.alloc (.cells #[.string t, .slice none 0 0] 59)).heap.size := by omega
        refine GO.step_stem ?_ (.tmp 22) (.tmp 27) ?_ (HG6.out.below hal) hBl (by omega) ⟨t, []⟩ none 0 0 w6.heap.size ?_ ?_ (heap_alloc_new w6 _) (World.ownsRow_nil _ _ _ _) (fun q hq => by simp [Value.ownBlock] at hq) ?_; rfl; rfl; rfl; rfl
        intro gn cap w8 hg8 hgr8 hloc8
        have HX8 := Lib.hid ((HX6.out.below hal).grownNe hgr8 (fun q hq => by have := HL2.out q hq; omega))
        obtain ⟨x8, y8⟩ := HX8.out.c1
        refine hK9.out _ _ (trivial) (fun hHeld6 => ?_)
        clear hK9 K9
        try simp only [Act.put, List.getElem_toArray, List.getElem_cons_succ, List.getElem_cons_zero, List.setIfInBounds_toArray, List.set_cons_zero, List.set_cons_succ]
        refine wpAnyH_take (i := 8) (v := ?v9) rfl (by kernel_rfl) (by kernel_rfl) (by kernel_rfl) (fun _ _ _ h => h) (Or.inl ⟨by kernel_rfl, ?hy9⟩) (by assumption) ?_
        case hy9 => (intro w9 hS9; (try dsimp only at hS9); go_simp; (try with_reducible rfl))
        try simp only [Act.put, List.getElem_toArray, List.getElem_cons_succ, List.getElem_cons_zero, List.setIfInBounds_toArray, List.set_cons_zero, List.set_cons_succ]
        refine wpAnyH_ready (rs := [9]) (by kernel_rfl) (by simp) ?_
        refine AllReadyH.cons rfl (fun K9 hK9 => ?_) AllReadyH.nil
        rw [if_pos (by rfl)]
        go_simp
        refine hK9.out _ _ (trivial) (fun hHeld7 => ?_)
        clear hK9 K9
        try simp only [Act.put, List.getElem_toArray, List.getElem_cons_succ, List.getElem_cons_zero, List.setIfInBounds_toArray, List.set_cons_zero, List.set_cons_succ]
        refine wpAnyH_done (by kernel_rfl) ?_ _
        have hgn : gn ≠ gb := hloc8.elim (fun h => by have := HL2.out gn h; omega) (fun h => by omega)
        have hR8 := (hgr8.block w.heap.size (by omega) (fun e => by have := (HG6.out.lt2 e.symm).1; omega)).trans ((hal.block w.heap.size (by omega)).trans HR6.out)
        have HEnd : Hid (EndB w (w8.setCell ⟨gb, 1, none⟩ (.slice (some ⟨gn, 0, none⟩) (x.stems.length + 1) cap)) gb g bs k (.slice a1 x.affixes.length c1) (.slice (some ⟨gn, 0, none⟩) (x.stems.length + 1) cap)) := Lib.hid ⟨HX8.out.set1 _, (Below.heap_setCell _ _ _ _ (by show w.heap.size ≠ gb; omega)).trans hR8, ⟨_, (hg8.setNe (g := gb) (i := 1) (u := (.slice (some ⟨gn, 0, none⟩) (x.stems.length + 1) cap)) (fun q e => by have := HL1.out q e; omega) (fun q e => by have e : gn = q := Option.some.inj e; omega) (last_ne HLu.out)).graW (HNx.out.stem (s := ⟨t, []⟩) ⟨max12 (by show t.size ≤ 60; omega), (Nat.zero_le _ : 0 ≤ 60), by simp⟩ (by omega)), (HNx.out.stem (s := ⟨t, []⟩) ⟨max12 (by show t.size ≤ 60; omega), (Nat.zero_le _ : 0 ≤ 60), by simp⟩ (by omega))⟩, ⟨k6, by omega, HS6.out.low (((hal.mono (by omega)).grown hgr8 (by omega) (fun q hq => by have := (HG6.out.lt2 hq).1; omega)).setCell (p := ⟨gb, 1, none⟩) (by show g + 1 ≤ gb; omega) _)⟩, ((HK6.out.trans (Kept.of_below hal)).then_grown hgr8 (fun q hq => by have := (HG6.out.lt2 hq).1; omega)).set_new (by omega)⟩
        clear hg8 hgr8 hloc8 hR8 x8 y8
        obtain ⟨x0, y0⟩ := HEnd.out.box.c0
        obtain ⟨x1, y1⟩ := HEnd.out.box.c1
        obtain ⟨d0, q0⟩ := src_cell (i := 0) (v := .slice none 0 0) HEnd.out.res rfl
        obtain ⟨d1, q1⟩ := src_cell (i := 1) (v := .slice none 0 0) HEnd.out.res rfl
        go_wp2
        obtain ⟨st, hbe, hke⟩ := HEnd.out.done hgl
        exact bodyPost_ret (v := .agg #[(.slice a1 x.affixes.length c1), (.slice (some ⟨gn, 0, none⟩) (x.stems.length + 1) cap)]) (results_cell_row (p := 2) (ty := 27) rfl _ _ w.heap.size _ _ _ _ rfl st Tryz.underlying27 rfl infoGra) rfl ⟨_, _, rfl, hbe, hke⟩
      · rw [if_pos (by rfl)]
        have c3a : (w3.alloc (.cells #[.string ⟨#[97]⟩, .string ⟨#[122, 122]⟩, .string ⟨#[97, 110]⟩, .string ⟨#[90, 122]⟩] 9)).cell? ⟨gb, 1, none⟩ = some (.slice a2 x.stems.length c2) := cell_allocQ _ x3
        go_simp
        refine hK9.out _ _ (trivial) (fun hHeld2 => ?_)
        clear hK9 K9
        try simp only [Act.put, List.getElem_toArray, List.getElem_cons_succ, List.getElem_cons_zero, List.setIfInBounds_toArray, List.set_cons_zero, List.set_cons_succ]
        refine wpAnyH_ready (rs := [1, 4]) (by kernel_rfl) (by simp) ?_
        refine AllReadyH.cons rfl (fun K9 hK9 => ?_) (AllReadyH.cons rfl (fun K9 hK9 => ?_) (AllReadyH.nil))
        · rw [if_pos (by rfl)]
          go_simp
          refine hK9.out _ _ (trivial) (fun hHeld3 => ?_)
          clear hK9 K9
          try simp only [Act.put, List.getElem_toArray, List.getElem_cons_succ, List.getElem_cons_zero, List.setIfInBounds_toArray, List.set_cons_zero, List.set_cons_succ]
          refine wpAnyH_ready (rs := [4]) (by kernel_rfl) (by simp) ?_
          refine AllReadyH.cons rfl (fun K9 hK9 => ?_) AllReadyH.nil
          rw [if_pos (by rfl)]
          go_wp2_with (go_at_call 36; refine (text_any g bs k3 _ ([⟨#[97]⟩, ⟨#[122, 122]⟩, ⟨#[97, 110]⟩, ⟨#[90, 122]⟩] : List ByteArray) _ (HS3.out.below hbL) (by omega) hstL (by decide) (by decide) (fun a n c e p hp => by cases e; cases hp; show w3.heap.size ≠ g; omega)).mono ?_; rintro e w6 ⟨t, k6, rfl, htm, hk6, hs6, hkk6⟩)
          have hkk6 : Kept g (g + 1) w3 w6 := (Kept.of_below hbL).trans hkk6
          have ht12 : t.size ≤ 12 := (by decide : ∀ s ∈ ([⟨#[97]⟩, ⟨#[122, 122]⟩, ⟨#[97, 110]⟩, ⟨#[90, 122]⟩] : List ByteArray), s.size ≤ 12) t htm
          have hz6 := hkk6.size
          have HX6 := Lib.hid (HX3.out.kept hkk6 (.inr (by omega)))
          have HG6 := Lib.hid (HG3.out.kept hkk6 (by omega))
          have HR6 := Lib.hid ((hkk6.block w.heap.size (by omega) (.inr (by omega))).trans HR3.out)
          have HK6 := Lib.hid (HK3.out.trans hkk6)
          have HS6 := Lib.hid hs6
          have c6 := HX6.out.c1.1
          refine hK9.out _ _ (trivial) (fun hHeld4 => ?_)
          clear hK9 K9
          try simp only [Act.put, List.getElem_toArray, List.getElem_cons_succ, List.getElem_cons_zero, List.setIfInBounds_toArray, List.set_cons_zero, List.set_cons_succ]
          refine wpAnyH_take (i := 5) (v := ?v10) rfl (by kernel_rfl) (by kernel_rfl) (by kernel_rfl) (fun _ _ _ h => h) (Or.inl ⟨by kernel_rfl, ?hy10⟩) (by assumption) ?_
          case hy10 => (intro w9 hS9; (try dsimp only at hS9); go_simp; (try with_reducible rfl))
          try simp only [Act.put, List.getElem_toArray, List.getElem_cons_succ, List.getElem_cons_zero, List.setIfInBounds_toArray, List.set_cons_zero, List.set_cons_succ]
          refine wpAnyH_ready (rs := [6]) (by kernel_rfl) (by simp) ?_
          refine AllReadyH.cons rfl (fun K9 hK9 => ?_) AllReadyH.nil
          rw [if_pos (by rfl)]
          have c6a := cell_allocQ (.cells #[.string t, .slice none 0 0] 59) c6
          go_simp
          refine hK9.out _ _ (trivial) (fun hHeld5 => ?_)
          clear hK9 K9
          try simp only [Act.put, List.getElem_toArray, List.getElem_cons_succ, List.getElem_cons_zero, List.setIfInBounds_toArray, List.set_cons_zero, List.set_cons_succ]
          refine wpAnyH_ready (rs := [7]) (by kernel_rfl) (by simp) ?_
          refine AllReadyH.cons rfl (fun K9 hK9 => ?_) AllReadyH.nil
          have hal := one_belowQ w6 (.cells #[.string t, .slice none 0 0] 59)
          have hzl := hal.size
          have hBl : w.heap.size + 1 ≤ (w6.alloc (.cells #[.string t, .slice none 0 0] 59)).heap.size := by omega
          refine GO.step_stem ?_ (.tmp 22) (.tmp 27) ?_ (HG6.out.below hal) hBl (by omega) ⟨t, []⟩ none 0 0 w6.heap.size ?_ ?_ (heap_alloc_new w6 _) (World.ownsRow_nil _ _ _ _) (fun q hq => by simp [Value.ownBlock] at hq) ?_; rfl; rfl; rfl; rfl
          intro gn cap w8 hg8 hgr8 hloc8
          have HX8 := Lib.hid ((HX6.out.below hal).grownNe hgr8 (fun q hq => by have := HL2.out q hq; omega))
          obtain ⟨x8, y8⟩ := HX8.out.c1
          refine hK9.out _ _ (trivial) (fun hHeld6 => ?_)
          clear hK9 K9
          try simp only [Act.put, List.getElem_toArray, List.getElem_cons_succ, List.getElem_cons_zero, List.setIfInBounds_toArray, List.set_cons_zero, List.set_cons_succ]
          refine wpAnyH_take (i := 8) (v := ?v11) rfl (by kernel_rfl) (by kernel_rfl) (by kernel_rfl) (fun _ _ _ h => h) (Or.inl ⟨by kernel_rfl, ?hy11⟩) (by assumption) ?_
          case hy11 => (intro w9 hS9; (try dsimp only at hS9); go_simp; (try with_reducible rfl))
          try simp only [Act.put, List.getElem_toArray, List.getElem_cons_succ, List.getElem_cons_zero, List.setIfInBounds_toArray, List.set_cons_zero, List.set_cons_succ]
          refine wpAnyH_ready (rs := [9]) (by kernel_rfl) (by simp) ?_
          refine AllReadyH.cons rfl (fun K9 hK9 => ?_) AllReadyH.nil
          rw [if_pos (by rfl)]
          go_simp
          refine hK9.out _ _ (trivial) (fun hHeld7 => ?_)
          clear hK9 K9
          try simp only [Act.put, List.getElem_toArray, List.getElem_cons_succ, List.getElem_cons_zero, List.setIfInBounds_toArray, List.set_cons_zero, List.set_cons_succ]
          refine wpAnyH_done (by kernel_rfl) ?_ _
          have hgn : gn ≠ gb := hloc8.elim (fun h => by have := HL2.out gn h; omega) (fun h => by omega)
          have hR8 := (hgr8.block w.heap.size (by omega) (fun e => by have := (HG6.out.lt2 e.symm).1; omega)).trans ((hal.block w.heap.size (by omega)).trans HR6.out)
          have HEnd : Hid (EndB w (w8.setCell ⟨gb, 1, none⟩ (.slice (some ⟨gn, 0, none⟩) (x.stems.length + 1) cap)) gb g bs k (.slice a1 x.affixes.length c1) (.slice (some ⟨gn, 0, none⟩) (x.stems.length + 1) cap)) := Lib.hid ⟨HX8.out.set1 _, (Below.heap_setCell _ _ _ _ (by show w.heap.size ≠ gb; omega)).trans hR8, ⟨_, (hg8.setNe (g := gb) (i := 1) (u := (.slice (some ⟨gn, 0, none⟩) (x.stems.length + 1) cap)) (fun q e => by have := HL1.out q e; omega) (fun q e => by have e : gn = q := Option.some.inj e; omega) (last_ne HLu.out)).graW (HNx.out.stem (s := ⟨t, []⟩) ⟨max12 (by show t.size ≤ 60; omega), (Nat.zero_le _ : 0 ≤ 60), by simp⟩ (by omega)), (HNx.out.stem (s := ⟨t, []⟩) ⟨max12 (by show t.size ≤ 60; omega), (Nat.zero_le _ : 0 ≤ 60), by simp⟩ (by omega))⟩, ⟨k6, by omega, HS6.out.low (((hal.mono (by omega)).grown hgr8 (by omega) (fun q hq => by have := (HG6.out.lt2 hq).1; omega)).setCell (p := ⟨gb, 1, none⟩) (by show g + 1 ≤ gb; omega) _)⟩, ((HK6.out.trans (Kept.of_below hal)).then_grown hgr8 (fun q hq => by have := (HG6.out.lt2 hq).1; omega)).set_new (by omega)⟩
          clear hg8 hgr8 hloc8 hR8 x8 y8
          obtain ⟨x0, y0⟩ := HEnd.out.box.c0
          obtain ⟨x1, y1⟩ := HEnd.out.box.c1
          obtain ⟨d0, q0⟩ := src_cell (i := 0) (v := .slice none 0 0) HEnd.out.res rfl
          obtain ⟨d1, q1⟩ := src_cell (i := 1) (v := .slice none 0 0) HEnd.out.res rfl
          go_wp2
          obtain ⟨st, hbe, hke⟩ := HEnd.out.done hgl
          exact bodyPost_ret (v := .agg #[(.slice a1 x.affixes.length c1), (.slice (some ⟨gn, 0, none⟩) (x.stems.length + 1) cap)]) (results_cell_row (p := 2) (ty := 27) rfl _ _ w.heap.size _ _ _ _ rfl st Tryz.underlying27 rfl infoGra) rfl ⟨_, _, rfl, hbe, hke⟩
        · rw [if_pos (by rfl)]
          go_wp2_with (go_at_call 36; refine (text_any g bs k3 _ ([⟨#[97]⟩, ⟨#[122, 122]⟩, ⟨#[97, 110]⟩, ⟨#[90, 122]⟩] : List ByteArray) _ (HS3.out.below hbL) (by omega) hstL (by decide) (by decide) (fun a n c e p hp => by cases e; cases hp; show w3.heap.size ≠ g; omega)).mono ?_; rintro e w6 ⟨t, k6, rfl, htm, hk6, hs6, hkk6⟩)
          have hkk6 : Kept g (g + 1) w3 w6 := (Kept.of_below hbL).trans hkk6
          have ht12 : t.size ≤ 12 := (by decide : ∀ s ∈ ([⟨#[97]⟩, ⟨#[122, 122]⟩, ⟨#[97, 110]⟩, ⟨#[90, 122]⟩] : List ByteArray), s.size ≤ 12) t htm
          have hz6 := hkk6.size
          have HX6 := Lib.hid (HX3.out.kept hkk6 (.inr (by omega)))
          have HG6 := Lib.hid (HG3.out.kept hkk6 (by omega))
          have HR6 := Lib.hid ((hkk6.block w.heap.size (by omega) (.inr (by omega))).trans HR3.out)
          have HK6 := Lib.hid (HK3.out.trans hkk6)
          have HS6 := Lib.hid hs6
          have c6 := HX6.out.c1.1
          refine hK9.out _ _ (trivial) (fun hHeld3 => ?_)
          clear hK9 K9
          try simp only [Act.put, List.getElem_toArray, List.getElem_cons_succ, List.getElem_cons_zero, List.setIfInBounds_toArray, List.set_cons_zero, List.set_cons_succ]
          refine wpAnyH_take (i := 5) (v := ?v12) rfl (by kernel_rfl) (by kernel_rfl) (by kernel_rfl) (fun _ _ _ h => h) (Or.inl ⟨by kernel_rfl, ?hy12⟩) (by assumption) ?_
          case hy12 => (intro w9 hS9; (try dsimp only at hS9); go_simp; (try with_reducible rfl))
          try simp only [Act.put, List.getElem_toArray, List.getElem_cons_succ, List.getElem_cons_zero, List.setIfInBounds_toArray, List.set_cons_zero, List.set_cons_succ]
          refine wpAnyH_ready (rs := [1, 6]) (by kernel_rfl) (by simp) ?_
          refine AllReadyH.cons rfl (fun K9 hK9 => ?_) (AllReadyH.cons rfl (fun K9 hK9 => ?_) (AllReadyH.nil))
          · rw [if_pos (by rfl)]
            go_simp
            refine hK9.out _ _ (trivial) (fun hHeld4 => ?_)
            clear hK9 K9
            try simp only [Act.put, List.getElem_toArray, List.getElem_cons_succ, List.getElem_cons_zero, List.setIfInBounds_toArray, List.set_cons_zero, List.set_cons_succ]
            refine wpAnyH_ready (rs := [6]) (by kernel_rfl) (by simp) ?_
            refine AllReadyH.cons rfl (fun K9 hK9 => ?_) AllReadyH.nil
            rw [if_pos (by rfl)]
            have c6a := cell_allocQ (.cells #[.string t, .slice none 0 0] 59) c6
            go_simp
            refine hK9.out _ _ (trivial) (fun hHeld5 => ?_)
            clear hK9 K9
            try simp only [Act.put, List.getElem_toArray, List.getElem_cons_succ, List.getElem_cons_zero, List.setIfInBounds_toArray, List.set_cons_zero, List.set_cons_succ]
            refine wpAnyH_ready (rs := [7]) (by kernel_rfl) (by simp) ?_
            refine AllReadyH.cons rfl (fun K9 hK9 => ?_) AllReadyH.nil
            have hal := one_belowQ w6 (.cells #[.string t, .slice none 0 0] 59)
            have hzl := hal.size
            have hBl : w.heap.size + 1 ≤ (w6.alloc (.cells #[.string t, .slice none 0 0] 59)).heap.size := by omega
            refine GO.step_stem ?_ (.tmp 22) (.tmp 27) ?_ (HG6.out.below hal) hBl (by omega) ⟨t, []⟩ none 0 0 w6.heap.size ?_ ?_ (heap_alloc_new w6 _) (World.ownsRow_nil _ _ _ _) (fun q hq => by simp [Value.ownBlock] at hq) ?_; rfl; rfl; rfl; rfl
            intro gn cap w8 hg8 hgr8 hloc8
            have HX8 := Lib.hid ((HX6.out.below hal).grownNe hgr8 (fun q hq => by have := HL2.out q hq; omega))
            obtain ⟨x8, y8⟩ := HX8.out.c1
            refine hK9.out _ _ (trivial) (fun hHeld6 => ?_)
            clear hK9 K9
            try simp only [Act.put, List.getElem_toArray, List.getElem_cons_succ, List.getElem_cons_zero, List.setIfInBounds_toArray, List.set_cons_zero, List.set_cons_succ]
            refine wpAnyH_take (i := 8) (v := ?v13) rfl (by kernel_rfl) (by kernel_rfl) (by kernel_rfl) (fun _ _ _ h => h) (Or.inl ⟨by kernel_rfl, ?hy13⟩) (by assumption) ?_
            case hy13 => (intro w9 hS9; (try dsimp only at hS9); go_simp; (try with_reducible rfl))
            try simp only [Act.put, List.getElem_toArray, List.getElem_cons_succ, List.getElem_cons_zero, List.setIfInBounds_toArray, List.set_cons_zero, List.set_cons_succ]
            refine wpAnyH_ready (rs := [9]) (by kernel_rfl) (by simp) ?_
            refine AllReadyH.cons rfl (fun K9 hK9 => ?_) AllReadyH.nil
            rw [if_pos (by rfl)]
            go_simp
            refine hK9.out _ _ (trivial) (fun hHeld7 => ?_)
            clear hK9 K9
            try simp only [Act.put, List.getElem_toArray, List.getElem_cons_succ, List.getElem_cons_zero, List.setIfInBounds_toArray, List.set_cons_zero, List.set_cons_succ]
            refine wpAnyH_done (by kernel_rfl) ?_ _
            have hgn : gn ≠ gb := hloc8.elim (fun h => by have := HL2.out gn h; omega) (fun h => by omega)
            have hR8 := (hgr8.block w.heap.size (by omega) (fun e => by have := (HG6.out.lt2 e.symm).1; omega)).trans ((hal.block w.heap.size (by omega)).trans HR6.out)
            have HEnd : Hid (EndB w (w8.setCell ⟨gb, 1, none⟩ (.slice (some ⟨gn, 0, none⟩) (x.stems.length + 1) cap)) gb g bs k (.slice a1 x.affixes.length c1) (.slice (some ⟨gn, 0, none⟩) (x.stems.length + 1) cap)) := Lib.hid ⟨HX8.out.set1 _, (Below.heap_setCell _ _ _ _ (by show w.heap.size ≠ gb; omega)).trans hR8, ⟨_, (hg8.setNe (g := gb) (i := 1) (u := (.slice (some ⟨gn, 0, none⟩) (x.stems.length + 1) cap)) (fun q e => by have := HL1.out q e; omega) (fun q e => by have e : gn = q := Option.some.inj e; omega) (last_ne HLu.out)).graW (HNx.out.stem (s := ⟨t, []⟩) ⟨max12 (by show t.size ≤ 60; omega), (Nat.zero_le _ : 0 ≤ 60), by simp⟩ (by omega)), (HNx.out.stem (s := ⟨t, []⟩) ⟨max12 (by show t.size ≤ 60; omega), (Nat.zero_le _ : 0 ≤ 60), by simp⟩ (by omega))⟩, ⟨k6, by omega, HS6.out.low (((hal.mono (by omega)).grown hgr8 (by omega) (fun q hq => by have := (HG6.out.lt2 hq).1; omega)).setCell (p := ⟨gb, 1, none⟩) (by show g + 1 ≤ gb; omega) _)⟩, ((HK6.out.trans (Kept.of_below hal)).then_grown hgr8 (fun q hq => by have := (HG6.out.lt2 hq).1; omega)).set_new (by omega)⟩
            clear hg8 hgr8 hloc8 hR8 x8 y8
            obtain ⟨x0, y0⟩ := HEnd.out.box.c0
            obtain ⟨x1, y1⟩ := HEnd.out.box.c1
            obtain ⟨d0, q0⟩ := src_cell (i := 0) (v := .slice none 0 0) HEnd.out.res rfl
            obtain ⟨d1, q1⟩ := src_cell (i := 1) (v := .slice none 0 0) HEnd.out.res rfl
            go_wp2
            obtain ⟨st, hbe, hke⟩ := HEnd.out.done hgl
            exact bodyPost_ret (v := .agg #[(.slice a1 x.affixes.length c1), (.slice (some ⟨gn, 0, none⟩) (x.stems.length + 1) cap)]) (results_cell_row (p := 2) (ty := 27) rfl _ _ w.heap.size _ _ _ _ rfl st Tryz.underlying27 rfl infoGra) rfl ⟨_, _, rfl, hbe, hke⟩
          · rw [if_pos (by rfl)]
            have c6a := cell_allocQ (.cells #[.string t, .slice none 0 0] 59) c6
            go_simp
            refine hK9.out _ _ (trivial) (fun hHeld4 => ?_)
            clear hK9 K9
            try simp only [Act.put, List.getElem_toArray, List.getElem_cons_succ, List.getElem_cons_zero, List.setIfInBounds_toArray, List.set_cons_zero, List.set_cons_succ]
            refine wpAnyH_ready (rs := [1]) (by kernel_rfl) (by simp) ?_
            refine AllReadyH.cons rfl (fun K9 hK9 => ?_) AllReadyH.nil
            rw [if_pos (by rfl)]
            go_simp
            refine hK9.out _ _ (trivial) (fun hHeld5 => ?_)
            clear hK9 K9
            try simp only [Act.put, List.getElem_toArray, List.getElem_cons_succ, List.getElem_cons_zero, List.setIfInBounds_toArray, List.set_cons_zero, List.set_cons_succ]
            refine wpAnyH_ready (rs := [7]) (by kernel_rfl) (by simp) ?_
            refine AllReadyH.cons rfl (fun K9 hK9 => ?_) AllReadyH.nil
            have hal := one_belowQ w6 (.cells #[.string t, .slice none 0 0] 59)
            have hzl := hal.size
            have hBl : w.heap.size + 1 ≤ (w6.alloc (.cells #[.string t, .slice none 0 0] 59)).heap.size := by omega
            refine GO.step_stem ?_ (.tmp 22) (.tmp 27) ?_ (HG6.out.below hal) hBl (by omega) ⟨t, []⟩ none 0 0 w6.heap.size ?_ ?_ (heap_alloc_new w6 _) (World.ownsRow_nil _ _ _ _) (fun q hq => by simp [Value.ownBlock] at hq) ?_; rfl; rfl; rfl; rfl
            intro gn cap w8 hg8 hgr8 hloc8
            have HX8 := Lib.hid ((HX6.out.below hal).grownNe hgr8 (fun q hq => by have := HL2.out q hq; omega))
            obtain ⟨x8, y8⟩ := HX8.out.c1
            refine hK9.out _ _ (trivial) (fun hHeld6 => ?_)
            clear hK9 K9
            try simp only [Act.put, List.getElem_toArray, List.getElem_cons_succ, List.getElem_cons_zero, List.setIfInBounds_toArray, List.set_cons_zero, List.set_cons_succ]
            refine wpAnyH_take (i := 8) (v := ?v14) rfl (by kernel_rfl) (by kernel_rfl) (by kernel_rfl) (fun _ _ _ h => h) (Or.inl ⟨by kernel_rfl, ?hy14⟩) (by assumption) ?_
            case hy14 => (intro w9 hS9; (try dsimp only at hS9); go_simp; (try with_reducible rfl))
            try simp only [Act.put, List.getElem_toArray, List.getElem_cons_succ, List.getElem_cons_zero, List.setIfInBounds_toArray, List.set_cons_zero, List.set_cons_succ]
            refine wpAnyH_ready (rs := [9]) (by kernel_rfl) (by simp) ?_
            refine AllReadyH.cons rfl (fun K9 hK9 => ?_) AllReadyH.nil
            rw [if_pos (by rfl)]
            go_simp
            refine hK9.out _ _ (trivial) (fun hHeld7 => ?_)
            clear hK9 K9
            try simp only [Act.put, List.getElem_toArray, List.getElem_cons_succ, List.getElem_cons_zero, List.setIfInBounds_toArray, List.set_cons_zero, List.set_cons_succ]
            refine wpAnyH_done (by kernel_rfl) ?_ _
            have hgn : gn ≠ gb := hloc8.elim (fun h => by have := HL2.out gn h; omega) (fun h => by omega)
            have hR8 := (hgr8.block w.heap.size (by omega) (fun e => by have := (HG6.out.lt2 e.symm).1; omega)).trans ((hal.block w.heap.size (by omega)).trans HR6.out)
            have HEnd : Hid (EndB w (w8.setCell ⟨gb, 1, none⟩ (.slice (some ⟨gn, 0, none⟩) (x.stems.length + 1) cap)) gb g bs k (.slice a1 x.affixes.length c1) (.slice (some ⟨gn, 0, none⟩) (x.stems.length + 1) cap)) := Lib.hid ⟨HX8.out.set1 _, (Below.heap_setCell _ _ _ _ (by show w.heap.size ≠ gb; omega)).trans hR8, ⟨_, (hg8.setNe (g := gb) (i := 1) (u := (.slice (some ⟨gn, 0, none⟩) (x.stems.length + 1) cap)) (fun q e => by have := HL1.out q e; omega) (fun q e => by have e : gn = q := Option.some.inj e; omega) (last_ne HLu.out)).graW (HNx.out.stem (s := ⟨t, []⟩) ⟨max12 (by show t.size ≤ 60; omega), (Nat.zero_le _ : 0 ≤ 60), by simp⟩ (by omega)), (HNx.out.stem (s := ⟨t, []⟩) ⟨max12 (by show t.size ≤ 60; omega), (Nat.zero_le _ : 0 ≤ 60), by simp⟩ (by omega))⟩, ⟨k6, by omega, HS6.out.low (((hal.mono (by omega)).grown hgr8 (by omega) (fun q hq => by have := (HG6.out.lt2 hq).1; omega)).setCell (p := ⟨gb, 1, none⟩) (by show g + 1 ≤ gb; omega) _)⟩, ((HK6.out.trans (Kept.of_below hal)).then_grown hgr8 (fun q hq => by have := (HG6.out.lt2 hq).1; omega)).set_new (by omega)⟩
            clear hg8 hgr8 hloc8 hR8 x8 y8
            obtain ⟨x0, y0⟩ := HEnd.out.box.c0
            obtain ⟨x1, y1⟩ := HEnd.out.box.c1
            obtain ⟨d0, q0⟩ := src_cell (i := 0) (v := .slice none 0 0) HEnd.out.res rfl
            obtain ⟨d1, q1⟩ := src_cell (i := 1) (v := .slice none 0 0) HEnd.out.res rfl
            go_wp2
            obtain ⟨st, hbe, hke⟩ := HEnd.out.done hgl
            exact bodyPost_ret (v := .agg #[(.slice a1 x.affixes.length c1), (.slice (some ⟨gn, 0, none⟩) (x.stems.length + 1) cap)]) (results_cell_row (p := 2) (ty := 27) rfl _ _ w.heap.size _ _ _ _ rfl st Tryz.underlying27 rfl infoGra) rfl ⟨_, _, rfl, hbe, hke⟩
    · by_cases r2 : r = 2
      · have hrI : (r : Int) = 2 := by omega
        rw [hrI]
        clear hrI hr
        obtain ⟨A, T⟩ := x
        cases T with
        | nil =>
          have HX3 : Hid (BoxG w3 gb (.slice a1 A.length c1) (.slice a2 0 c2)) := HX3
          obtain ⟨x3, y3⟩ := HX3.out.c1
          have HEnd : Hid (EndB w w3 gb g bs k (.slice a1 A.length c1) (.slice a2 0 c2)) := Lib.hid ⟨HX3.out, HR3.out, ⟨⟨A, []⟩, HG3.out.graW HNx.out, HNx.out⟩, ⟨k3, by omega, HS3.out⟩, HK3.out⟩
          obtain ⟨x0, y0⟩ := HEnd.out.box.c0
          obtain ⟨x1, y1⟩ := HEnd.out.box.c1
          obtain ⟨d0, q0⟩ := src_cell (i := 0) (v := .slice none 0 0) HEnd.out.res rfl
          obtain ⟨d1, q1⟩ := src_cell (i := 1) (v := .slice none 0 0) HEnd.out.res rfl
          go_wp2
          obtain ⟨st, hbe, hke⟩ := HEnd.out.done hgl
          exact bodyPost_ret (v := .agg #[(.slice a1 A.length c1), (.slice a2 0 c2)]) (results_cell_row (p := 2) (ty := 27) rfl _ _ w.heap.size _ _ _ _ rfl st Tryz.underlying27 rfl infoGra) rfl ⟨_, _, rfl, hbe, hke⟩
        | cons s S =>
          obtain ⟨u0, us0, rfl⟩ : ∃ u0 us0, us = u0 :: us0 := by cases us with | nil => exact absurd HG3.out.len (by simp) | cons u0 us0 => exact ⟨_, _, rfl⟩
          obtain ⟨b2, cc2, ea, -, -⟩ := World.ownsRow.form HG3.out.stm (by simp)
          injection ea with ea1 _ ea3
          subst ea1 ea3
          obtain ⟨a0, c0, ea, -, -⟩ := OwnS.shape (HG3.out.uses 0 (by simp) (by simp))
          have ea : u0 = (.slice a0 s.uses.length c0) := ea
          subst ea
          have HX3 : Hid (BoxG w3 gb (.slice a1 A.length c1) (.slice (some ⟨b2, 0, none⟩) (S.length + 1) c2)) := HX3
          have HG3 : Hid (GO w3 (w.heap.size + 1) (.slice a1 A.length c1) (.slice (some ⟨b2, 0, none⟩) (S.length + 1) c2) ⟨A, s :: S⟩ ((.slice a0 s.uses.length c0) :: us0)) := HG3
          have hb2 := HG3.out.lt2 (k := b2) rfl
          have hu12 : s.uses.length ≤ 12 := (HSx.out.sts 0 (by simp)).u
          have h1S : 1 < (GraD.mk A (s :: S)).stems.length * 2 := by show 1 < (S.length + 1) * 2; omega
          obtain ⟨x3, y3⟩ := HX3.out.c1
          have c3d : w3.drew.cell? ⟨gb, 1, none⟩ = some (.slice (some ⟨b2, 0, none⟩) (S.length + 1) c2) := x3
          have hu3 := World.ownsRow.cellAt HG3.out.stm 1 h1S
          have hu3 : w3.cell? ⟨b2, 1, none⟩ = some (.slice a0 s.uses.length c0) := hu3
          have hu3d : w3.drew.cell? ⟨b2, 1, none⟩ = some (.slice a0 s.uses.length c0) := hu3
          have hbL : Below w3.heap.size w3 (w3.drew.alloc (.cells (([⟨#[122, 122]⟩, ⟨#[97, 99, 116]⟩, ⟨#[122]⟩] : List ByteArray).map Value.string).toArray 9)) := (Below.refl w3.heap.size w3).drew.trans (one_belowQ w3.drew (.cells (([⟨#[122, 122]⟩, ⟨#[97, 99, 116]⟩, ⟨#[122]⟩] : List ByteArray).map Value.string).toArray 9))
          have hstL := strs_built w3.drew ([⟨#[122, 122]⟩, ⟨#[97, 99, 116]⟩, ⟨#[122]⟩] : List ByteArray) (by decide)
          have hSI : (0 : Int) < (S.length : Int) + 1 := by omega
          go_upto_region 9 with fail
          refine wp_region_held_drew (S := (fun w' => w'.cell? ⟨gb, 1, none⟩ = some (.slice (some ⟨b2, 0, none⟩) (S.length + 1) c2))) (by kernel_rfl) ?_ (fun hHeld => ?_)
          · exact x3
          refine wpAnyH_take (i := 0) (v := ?v15) rfl (by kernel_rfl) (by kernel_rfl) (by kernel_rfl) (fun _ _ _ h => h) (Or.inl ⟨by kernel_rfl, ?hy15⟩) (by assumption) ?_
          case hy15 => (intro w9 hS9; (try dsimp only at hS9); go_simp; (try with_reducible rfl))
          try simp only [Act.put, List.getElem_toArray, List.getElem_cons_succ, List.getElem_cons_zero, List.setIfInBounds_toArray, List.set_cons_zero, List.set_cons_succ]
          refine wpAnyH_take (i := 1) (v := ?v16) rfl (by kernel_rfl) (by kernel_rfl) (by kernel_rfl) (fun _ _ _ h => h) (Or.inl ⟨by kernel_rfl, ?hy16⟩) (by assumption) ?_
          case hy16 => (intro w9 hS9; (try dsimp only at hS9); go_simp; (try with_reducible rfl))
          try simp only [Act.put, List.getElem_toArray, List.getElem_cons_succ, List.getElem_cons_zero, List.setIfInBounds_toArray, List.set_cons_zero, List.set_cons_succ]
          refine wpAnyH_take (i := 2) (v := ?v17) rfl (by kernel_rfl) (by kernel_rfl) (by kernel_rfl) (fun _ _ _ h => h) (Or.inl ⟨by kernel_rfl, ?hy17⟩) (by assumption) ?_
          case hy17 => (intro w9 hS9; (try dsimp only at hS9); go_simp; (try with_reducible rfl))
          try simp only [Act.put, List.getElem_toArray, List.getElem_cons_succ, List.getElem_cons_zero, List.setIfInBounds_toArray, List.set_cons_zero, List.set_cons_succ]
          refine wpAnyH_take (i := 3) (v := ?v18) rfl (by kernel_rfl) (by kernel_rfl) (by kernel_rfl) (fun _ _ _ h => h) (Or.inl ⟨by kernel_rfl, ?hy18⟩) (by assumption) ?_
          case hy18 => (intro w9 hS9; (try dsimp only at hS9); go_simp; (try with_reducible rfl))
          try simp only [Act.put, List.getElem_toArray, List.getElem_cons_succ, List.getElem_cons_zero, List.setIfInBounds_toArray, List.set_cons_zero, List.set_cons_succ]
          refine wpAnyH_take (i := 4) (v := ?v19) rfl (by kernel_rfl) (by kernel_rfl) (by kernel_rfl) (fun _ _ _ h => h) (Or.inl ⟨by kernel_rfl, ?hy19⟩) (by assumption) ?_
          case hy19 => (intro w9 hS9; (try dsimp only at hS9); go_simp; (try with_reducible rfl))
          try simp only [Act.put, List.getElem_toArray, List.getElem_cons_succ, List.getElem_cons_zero, List.setIfInBounds_toArray, List.set_cons_zero, List.set_cons_succ]
          refine wpAnyH_take (i := 5) (v := ?v20) rfl (by kernel_rfl) (by kernel_rfl) (by kernel_rfl) (fun _ _ _ h => h) (Or.inl ⟨by kernel_rfl, ?hy20⟩) (by assumption) ?_
          case hy20 => (intro w9 hS9; (try dsimp only at hS9); go_simp; (try with_reducible rfl))
          try simp only [Act.put, List.getElem_toArray, List.getElem_cons_succ, List.getElem_cons_zero, List.setIfInBounds_toArray, List.set_cons_zero, List.set_cons_succ]
          refine wpAnyH_take (i := 7) (v := ?v21) rfl (by kernel_rfl) (by kernel_rfl) (by kernel_rfl) (fun _ _ _ h => h) (Or.inl ⟨by kernel_rfl, ?hy21⟩) (by assumption) ?_
          case hy21 => (intro w9 hS9; (try dsimp only at hS9); go_simp; (try with_reducible rfl))
          try simp only [Act.put, List.getElem_toArray, List.getElem_cons_succ, List.getElem_cons_zero, List.setIfInBounds_toArray, List.set_cons_zero, List.set_cons_succ]
          refine wpAnyH_ready (rs := [6, 8]) (by kernel_rfl) (by simp) ?_
          refine AllReadyH.cons rfl (fun K9 hK9 => ?_) (AllReadyH.cons rfl (fun K9 hK9 => ?_) (AllReadyH.nil))
          · rw [if_pos (by rfl)]
            go_simp
            refine hK9.out _ _ ((by assumption)) (fun hHeld2 => ?_)
            clear hK9 K9
            try simp only [Act.put, List.getElem_toArray, List.getElem_cons_succ, List.getElem_cons_zero, List.setIfInBounds_toArray, List.set_cons_zero, List.set_cons_succ]
            refine wpAnyH_ready (rs := [8]) (by kernel_rfl) (by simp) ?_
            refine AllReadyH.cons rfl (fun K9 hK9 => ?_) AllReadyH.nil
            rw [if_pos (by rfl)]
            have hu3a : (w3.alloc (.cells #[.string ⟨#[122, 122]⟩, .string ⟨#[97, 99, 116]⟩, .string ⟨#[122]⟩] 9)).cell? ⟨b2, 1, none⟩ = some (.slice a0 s.uses.length c0) := cell_allocQ _ hu3
            go_simp
            refine hK9.out _ _ (cell_allocQ _ x3) (fun hHeld3 => ?_)
            clear hK9 K9
            try simp only [Act.put, List.getElem_toArray, List.getElem_cons_succ, List.getElem_cons_zero, List.setIfInBounds_toArray, List.set_cons_zero, List.set_cons_succ]
            refine wpAnyH_ready (rs := [9]) (by kernel_rfl) (by simp) ?_
            refine AllReadyH.cons rfl (fun K9 hK9 => ?_) AllReadyH.nil
            rw [if_pos (by rfl)]
            go_wp2_with (go_at_call 36; refine (text_any g bs k3 _ ([⟨#[122, 122]⟩, ⟨#[97, 99, 116]⟩, ⟨#[122]⟩] : List ByteArray) _ (HS3.out.below hbL) (by omega) hstL (by decide) (by decide) (fun a n c e p hp => by cases e; cases hp; show w3.heap.size ≠ g; omega)).mono ?_; rintro e w6 ⟨t, k6, rfl, htm, hk6, hs6, hkk6⟩)
            have hkk6 : Kept g (g + 1) w3 w6 := (Kept.of_below hbL).trans hkk6
            have ht12 : t.size ≤ 12 := (by decide : ∀ s ∈ ([⟨#[122, 122]⟩, ⟨#[97, 99, 116]⟩, ⟨#[122]⟩] : List ByteArray), s.size ≤ 12) t htm
            have hz6 := hkk6.size
            have HX6 := Lib.hid (HX3.out.kept hkk6 (.inr (by omega)))
            have HG6 := Lib.hid (HG3.out.kept hkk6 (by omega))
            have HR6 := Lib.hid ((hkk6.block w.heap.size (by omega) (.inr (by omega))).trans HR3.out)
            have HK6 := Lib.hid (HK3.out.trans hkk6)
            have HS6 := Lib.hid hs6
            have c6 := HX6.out.c1.1
            have hu6 := World.ownsRow.cellAt HG6.out.stm 1 h1S
            have hu6 : w6.cell? ⟨b2, 1, none⟩ = some (.slice a0 s.uses.length c0) := hu6
            refine hK9.out _ _ (c6) (fun hHeld4 => ?_)
            clear hK9 K9
            try simp only [Act.put, List.getElem_toArray, List.getElem_cons_succ, List.getElem_cons_zero, List.setIfInBounds_toArray, List.set_cons_zero, List.set_cons_succ]
            refine wpAnyH_ready (rs := [10]) (by kernel_rfl) (by simp) ?_
            refine AllReadyH.cons rfl (fun K9 hK9 => ?_) AllReadyH.nil
            rw [if_pos (by rfl)]
            have hu6a := cell_allocQ (.cells #[.string t] 9) hu6
            go_simp
            refine hK9.out _ _ (cell_allocQ _ c6) (fun hHeld5 => ?_)
            clear hK9 K9
            try simp only [Act.put, List.getElem_toArray, List.getElem_cons_succ, List.getElem_cons_zero, List.setIfInBounds_toArray, List.set_cons_zero, List.set_cons_succ]
            refine wpAnyH_ready (rs := [11]) (by kernel_rfl) (by simp) ?_
            refine AllReadyH.cons rfl (fun K9 hK9 => ?_) AllReadyH.nil
            have hal := one_belowQ w6 (.cells #[.string t] 9)
            have hzl := hal.size
            have HGl := Lib.hid (HG6.out.below hal)
            refine step_strQ ?_ (.tmp 42) (.tmp 46) ?_ (w.heap.size + 1) (.slice a0 s.uses.length c0) s.uses (HGl.out.uses 0 (by simp) (by simp)) (by omega) (by omega) t w6.heap.size ?_ ?_ (heap_alloc_new w6 _) ?_; rfl; rfl; rfl; rfl
            intro gn cap w8 how8 hgr8 hloc8
            have hgr8 : (w6.alloc (.cells #[.string t] 9)).grownBy w8 (Value.slice a0 s.uses.length c0).ownBlock := hgr8
            have hu0b : ∀ q, (Value.slice a0 s.uses.length c0).ownBlock = some q → w.heap.size + 1 ≤ q ∧ q < gb := fun q hq => ⟨(HGl.out.ltu (j := 0) (by simp) hq).1, HLu.out 0 (by simp) q hq⟩
            obtain ⟨hread, hcell, hfrz, -, hb2a, hb2b, hb2c⟩ := HGl.out.use0 HNx.out t (max12 (by omega)) gn cap how8 hgr8
            have hb2g : b2 < gb := HL2.out b2 rfl
            have HX8 := Lib.hid ((HX6.out.below hal).grownNe hgr8 (fun q hq => by have := hu0b q hq; omega))
            have c8 := HX8.out.c1.1
            refine hK9.out _ _ (c8) (fun hHeld6 => ?_)
            clear hK9 K9
            try simp only [Act.put, List.getElem_toArray, List.getElem_cons_succ, List.getElem_cons_zero, List.setIfInBounds_toArray, List.set_cons_zero, List.set_cons_succ]
            refine wpAnyH_take (i := 12) (v := ?v22) rfl (by kernel_rfl) (by kernel_rfl) (by kernel_rfl) (fun _ _ _ h => h) (Or.inl ⟨by kernel_rfl, ?hy22⟩) (by assumption) ?_
            case hy22 => (intro w9 hS9; (try dsimp only at hS9); go_simp; (try with_reducible rfl))
            try simp only [Act.put, List.getElem_toArray, List.getElem_cons_succ, List.getElem_cons_zero, List.setIfInBounds_toArray, List.set_cons_zero, List.set_cons_succ]
            refine wpAnyH_take (i := 13) (v := ?v23) rfl (by kernel_rfl) (by kernel_rfl) (by kernel_rfl) (fun _ _ _ h => h) (Or.inl ⟨by kernel_rfl, ?hy23⟩) (by assumption) ?_
            case hy23 => (intro w9 hS9; (try dsimp only at hS9); go_simp; (try with_reducible rfl))
            try simp only [Act.put, List.getElem_toArray, List.getElem_cons_succ, List.getElem_cons_zero, List.setIfInBounds_toArray, List.set_cons_zero, List.set_cons_succ]
            refine wpAnyH_ready (rs := [14]) (by kernel_rfl) (by simp) ?_
            refine AllReadyH.cons rfl (fun K9 hK9 => ?_) AllReadyH.nil
            rw [if_pos (by rfl)]
            go_simp
            refine hK9.out _ _ (cell_setQ (by omega) c8) (fun hHeld7 => ?_)
            clear hK9 K9
            try simp only [Act.put, List.getElem_toArray, List.getElem_cons_succ, List.getElem_cons_zero, List.setIfInBounds_toArray, List.set_cons_zero, List.set_cons_succ]
            refine wpAnyH_done (by kernel_rfl) ?_ _
            have hR8 := (hgr8.block w.heap.size (by omega) (fun e => by have := hu0b _ e.symm; omega)).trans ((hal.block w.heap.size (by omega)).trans HR6.out)
            have HEnd : Hid (EndB w (w8.setCell ⟨b2, 1, none⟩ (.slice (some ⟨gn, 0, none⟩) (s.uses.length + 1) cap)) gb g bs k (.slice a1 A.length c1) (.slice (some ⟨b2, 0, none⟩) (S.length + 1) c2)) := Lib.hid ⟨HX8.out.set _ (by omega), (Below.heap_setCell _ _ _ _ (by show w.heap.size ≠ b2; omega)).trans hR8, ⟨_, hread.mono (Nat.le_refl _) (by rw [size_set]; exact Nat.le_refl _), ⟨HNx.out.al, HNx.out.sl, HNx.out.af, fun y hy => by rcases List.mem_cons.1 hy with rfl | hy; exact ⟨(HNx.out.st s (List.mem_cons_self ..)).1, by simp; omega, fun z hz => (List.mem_append.1 hz).elim (fun h => (HNx.out.st s (List.mem_cons_self ..)).2.2 z h) (fun h => by rw [List.mem_singleton.1 h]; exact max12 (by omega))⟩; exact HNx.out.st y (List.mem_cons_of_mem _ hy)⟩⟩, ⟨k6, by omega, HS6.out.low (((hal.mono (by omega)).grown hgr8 (by omega) (fun q hq => by have := hu0b q hq; omega)).setCell (p := ⟨b2, 1, none⟩) (by show g + 1 ≤ b2; omega) _)⟩, ((HK6.out.trans (Kept.of_below hal)).then_grown hgr8 (fun q hq => by have := hu0b q hq; omega)).set_new (by omega)⟩
            clear hread hcell hfrz how8 hgr8 hloc8 hR8 c8
            obtain ⟨x0, y0⟩ := HEnd.out.box.c0
            obtain ⟨x1, y1⟩ := HEnd.out.box.c1
            obtain ⟨d0, q0⟩ := src_cell (i := 0) (v := .slice none 0 0) HEnd.out.res rfl
            obtain ⟨d1, q1⟩ := src_cell (i := 1) (v := .slice none 0 0) HEnd.out.res rfl
            go_wp2
            obtain ⟨st, hbe, hke⟩ := HEnd.out.done hgl
            exact bodyPost_ret (v := .agg #[(.slice a1 A.length c1), (.slice (some ⟨b2, 0, none⟩) (S.length + 1) c2)]) (results_cell_row (p := 2) (ty := 27) rfl _ _ w.heap.size _ _ _ _ rfl st Tryz.underlying27 rfl infoGra) rfl ⟨_, _, rfl, hbe, hke⟩
          · rw [if_pos (by rfl)]
            have hu3a : (w3.alloc (.cells #[.string ⟨#[122, 122]⟩, .string ⟨#[97, 99, 116]⟩, .string ⟨#[122]⟩] 9)).cell? ⟨b2, 1, none⟩ = some (.slice a0 s.uses.length c0) := cell_allocQ _ hu3
            go_simp
            refine hK9.out _ _ (cell_allocQ _ x3) (fun hHeld2 => ?_)
            clear hK9 K9
            try simp only [Act.put, List.getElem_toArray, List.getElem_cons_succ, List.getElem_cons_zero, List.setIfInBounds_toArray, List.set_cons_zero, List.set_cons_succ]
            refine wpAnyH_ready (rs := [6, 9]) (by kernel_rfl) (by simp) ?_
            refine AllReadyH.cons rfl (fun K9 hK9 => ?_) (AllReadyH.cons rfl (fun K9 hK9 => ?_) (AllReadyH.nil))
            · rw [if_pos (by rfl)]
              go_simp
              refine hK9.out _ _ ((by assumption)) (fun hHeld3 => ?_)
              clear hK9 K9
              try simp only [Act.put, List.getElem_toArray, List.getElem_cons_succ, List.getElem_cons_zero, List.setIfInBounds_toArray, List.set_cons_zero, List.set_cons_succ]
              refine wpAnyH_ready (rs := [9]) (by kernel_rfl) (by simp) ?_
              refine AllReadyH.cons rfl (fun K9 hK9 => ?_) AllReadyH.nil
              rw [if_pos (by rfl)]
              go_wp2_with (go_at_call 36; refine (text_any g bs k3 _ ([⟨#[122, 122]⟩, ⟨#[97, 99, 116]⟩, ⟨#[122]⟩] : List ByteArray) _ (HS3.out.below hbL) (by omega) hstL (by decide) (by decide) (fun a n c e p hp => by cases e; cases hp; show w3.heap.size ≠ g; omega)).mono ?_; rintro e w6 ⟨t, k6, rfl, htm, hk6, hs6, hkk6⟩)
              have hkk6 : Kept g (g + 1) w3 w6 := (Kept.of_below hbL).trans hkk6
              have ht12 : t.size ≤ 12 := (by decide : ∀ s ∈ ([⟨#[122, 122]⟩, ⟨#[97, 99, 116]⟩, ⟨#[122]⟩] : List ByteArray), s.size ≤ 12) t htm
              have hz6 := hkk6.size
              have HX6 := Lib.hid (HX3.out.kept hkk6 (.inr (by omega)))
              have HG6 := Lib.hid (HG3.out.kept hkk6 (by omega))
              have HR6 := Lib.hid ((hkk6.block w.heap.size (by omega) (.inr (by omega))).trans HR3.out)
              have HK6 := Lib.hid (HK3.out.trans hkk6)
              have HS6 := Lib.hid hs6
              have c6 := HX6.out.c1.1
              have hu6 := World.ownsRow.cellAt HG6.out.stm 1 h1S
              have hu6 : w6.cell? ⟨b2, 1, none⟩ = some (.slice a0 s.uses.length c0) := hu6
              refine hK9.out _ _ (c6) (fun hHeld4 => ?_)
              clear hK9 K9
              try simp only [Act.put, List.getElem_toArray, List.getElem_cons_succ, List.getElem_cons_zero, List.setIfInBounds_toArray, List.set_cons_zero, List.set_cons_succ]
              refine wpAnyH_ready (rs := [10]) (by kernel_rfl) (by simp) ?_
              refine AllReadyH.cons rfl (fun K9 hK9 => ?_) AllReadyH.nil
              rw [if_pos (by rfl)]
              have hu6a := cell_allocQ (.cells #[.string t] 9) hu6
              go_simp
              refine hK9.out _ _ (cell_allocQ _ c6) (fun hHeld5 => ?_)
              clear hK9 K9
              try simp only [Act.put, List.getElem_toArray, List.getElem_cons_succ, List.getElem_cons_zero, List.setIfInBounds_toArray, List.set_cons_zero, List.set_cons_succ]
              refine wpAnyH_ready (rs := [11]) (by kernel_rfl) (by simp) ?_
              refine AllReadyH.cons rfl (fun K9 hK9 => ?_) AllReadyH.nil
              have hal := one_belowQ w6 (.cells #[.string t] 9)
              have hzl := hal.size
              have HGl := Lib.hid (HG6.out.below hal)
              refine step_strQ ?_ (.tmp 42) (.tmp 46) ?_ (w.heap.size + 1) (.slice a0 s.uses.length c0) s.uses (HGl.out.uses 0 (by simp) (by simp)) (by omega) (by omega) t w6.heap.size ?_ ?_ (heap_alloc_new w6 _) ?_; rfl; rfl; rfl; rfl
              intro gn cap w8 how8 hgr8 hloc8
              have hgr8 : (w6.alloc (.cells #[.string t] 9)).grownBy w8 (Value.slice a0 s.uses.length c0).ownBlock := hgr8
              have hu0b : ∀ q, (Value.slice a0 s.uses.length c0).ownBlock = some q → w.heap.size + 1 ≤ q ∧ q < gb := fun q hq => ⟨(HGl.out.ltu (j := 0) (by simp) hq).1, HLu.out 0 (by simp) q hq⟩
              obtain ⟨hread, hcell, hfrz, -, hb2a, hb2b, hb2c⟩ := HGl.out.use0 HNx.out t (max12 (by omega)) gn cap how8 hgr8
              have hb2g : b2 < gb := HL2.out b2 rfl
              have HX8 := Lib.hid ((HX6.out.below hal).grownNe hgr8 (fun q hq => by have := hu0b q hq; omega))
              have c8 := HX8.out.c1.1
              refine hK9.out _ _ (c8) (fun hHeld6 => ?_)
              clear hK9 K9
              try simp only [Act.put, List.getElem_toArray, List.getElem_cons_succ, List.getElem_cons_zero, List.setIfInBounds_toArray, List.set_cons_zero, List.set_cons_succ]
              refine wpAnyH_take (i := 12) (v := ?v24) rfl (by kernel_rfl) (by kernel_rfl) (by kernel_rfl) (fun _ _ _ h => h) (Or.inl ⟨by kernel_rfl, ?hy24⟩) (by assumption) ?_
              case hy24 => (intro w9 hS9; (try dsimp only at hS9); go_simp; (try with_reducible rfl))
              try simp only [Act.put, List.getElem_toArray, List.getElem_cons_succ, List.getElem_cons_zero, List.setIfInBounds_toArray, List.set_cons_zero, List.set_cons_succ]
              refine wpAnyH_take (i := 13) (v := ?v25) rfl (by kernel_rfl) (by kernel_rfl) (by kernel_rfl) (fun _ _ _ h => h) (Or.inl ⟨by kernel_rfl, ?hy25⟩) (by assumption) ?_
              case hy25 => (intro w9 hS9; (try dsimp only at hS9); go_simp; (try with_reducible rfl))
              try simp only [Act.put, List.getElem_toArray, List.getElem_cons_succ, List.getElem_cons_zero, List.setIfInBounds_toArray, List.set_cons_zero, List.set_cons_succ]
              refine wpAnyH_ready (rs := [14]) (by kernel_rfl) (by simp) ?_
              refine AllReadyH.cons rfl (fun K9 hK9 => ?_) AllReadyH.nil
              rw [if_pos (by rfl)]
              go_simp
              refine hK9.out _ _ (cell_setQ (by omega) c8) (fun hHeld7 => ?_)
              clear hK9 K9
              try simp only [Act.put, List.getElem_toArray, List.getElem_cons_succ, List.getElem_cons_zero, List.setIfInBounds_toArray, List.set_cons_zero, List.set_cons_succ]
              refine wpAnyH_done (by kernel_rfl) ?_ _
              have hR8 := (hgr8.block w.heap.size (by omega) (fun e => by have := hu0b _ e.symm; omega)).trans ((hal.block w.heap.size (by omega)).trans HR6.out)
              have HEnd : Hid (EndB w (w8.setCell ⟨b2, 1, none⟩ (.slice (some ⟨gn, 0, none⟩) (s.uses.length + 1) cap)) gb g bs k (.slice a1 A.length c1) (.slice (some ⟨b2, 0, none⟩) (S.length + 1) c2)) := Lib.hid ⟨HX8.out.set _ (by omega), (Below.heap_setCell _ _ _ _ (by show w.heap.size ≠ b2; omega)).trans hR8, ⟨_, hread.mono (Nat.le_refl _) (by rw [size_set]; exact Nat.le_refl _), ⟨HNx.out.al, HNx.out.sl, HNx.out.af, fun y hy => by rcases List.mem_cons.1 hy with rfl | hy; exact ⟨(HNx.out.st s (List.mem_cons_self ..)).1, by simp; omega, fun z hz => (List.mem_append.1 hz).elim (fun h => (HNx.out.st s (List.mem_cons_self ..)).2.2 z h) (fun h => by rw [List.mem_singleton.1 h]; exact max12 (by omega))⟩; exact HNx.out.st y (List.mem_cons_of_mem _ hy)⟩⟩, ⟨k6, by omega, HS6.out.low (((hal.mono (by omega)).grown hgr8 (by omega) (fun q hq => by have := hu0b q hq; omega)).setCell (p := ⟨b2, 1, none⟩) (by show g + 1 ≤ b2; omega) _)⟩, ((HK6.out.trans (Kept.of_below hal)).then_grown hgr8 (fun q hq => by have := hu0b q hq; omega)).set_new (by omega)⟩
              clear hread hcell hfrz how8 hgr8 hloc8 hR8 c8
              obtain ⟨x0, y0⟩ := HEnd.out.box.c0
              obtain ⟨x1, y1⟩ := HEnd.out.box.c1
              obtain ⟨d0, q0⟩ := src_cell (i := 0) (v := .slice none 0 0) HEnd.out.res rfl
              obtain ⟨d1, q1⟩ := src_cell (i := 1) (v := .slice none 0 0) HEnd.out.res rfl
              go_wp2
              obtain ⟨st, hbe, hke⟩ := HEnd.out.done hgl
              exact bodyPost_ret (v := .agg #[(.slice a1 A.length c1), (.slice (some ⟨b2, 0, none⟩) (S.length + 1) c2)]) (results_cell_row (p := 2) (ty := 27) rfl _ _ w.heap.size _ _ _ _ rfl st Tryz.underlying27 rfl infoGra) rfl ⟨_, _, rfl, hbe, hke⟩
            · rw [if_pos (by rfl)]
              go_wp2_with (go_at_call 36; refine (text_any g bs k3 _ ([⟨#[122, 122]⟩, ⟨#[97, 99, 116]⟩, ⟨#[122]⟩] : List ByteArray) _ (HS3.out.below hbL) (by omega) hstL (by decide) (by decide) (fun a n c e p hp => by cases e; cases hp; show w3.heap.size ≠ g; omega)).mono ?_; rintro e w6 ⟨t, k6, rfl, htm, hk6, hs6, hkk6⟩)
              have hkk6 : Kept g (g + 1) w3 w6 := (Kept.of_below hbL).trans hkk6
              have ht12 : t.size ≤ 12 := (by decide : ∀ s ∈ ([⟨#[122, 122]⟩, ⟨#[97, 99, 116]⟩, ⟨#[122]⟩] : List ByteArray), s.size ≤ 12) t htm
              have hz6 := hkk6.size
              have HX6 := Lib.hid (HX3.out.kept hkk6 (.inr (by omega)))
              have HG6 := Lib.hid (HG3.out.kept hkk6 (by omega))
              have HR6 := Lib.hid ((hkk6.block w.heap.size (by omega) (.inr (by omega))).trans HR3.out)
              have HK6 := Lib.hid (HK3.out.trans hkk6)
              have HS6 := Lib.hid hs6
              have c6 := HX6.out.c1.1
              have hu6 := World.ownsRow.cellAt HG6.out.stm 1 h1S
              have hu6 : w6.cell? ⟨b2, 1, none⟩ = some (.slice a0 s.uses.length c0) := hu6
              refine hK9.out _ _ (c6) (fun hHeld3 => ?_)
              clear hK9 K9
              try simp only [Act.put, List.getElem_toArray, List.getElem_cons_succ, List.getElem_cons_zero, List.setIfInBounds_toArray, List.set_cons_zero, List.set_cons_succ]
              refine wpAnyH_ready (rs := [6, 10]) (by kernel_rfl) (by simp) ?_
              refine AllReadyH.cons rfl (fun K9 hK9 => ?_) (AllReadyH.cons rfl (fun K9 hK9 => ?_) (AllReadyH.nil))
              · rw [if_pos (by rfl)]
                go_simp
                refine hK9.out _ _ ((by assumption)) (fun hHeld4 => ?_)
                clear hK9 K9
                try simp only [Act.put, List.getElem_toArray, List.getElem_cons_succ, List.getElem_cons_zero, List.setIfInBounds_toArray, List.set_cons_zero, List.set_cons_succ]
                refine wpAnyH_ready (rs := [10]) (by kernel_rfl) (by simp) ?_
                refine AllReadyH.cons rfl (fun K9 hK9 => ?_) AllReadyH.nil
                rw [if_pos (by rfl)]
                have hu6a := cell_allocQ (.cells #[.string t] 9) hu6
                go_simp
                refine hK9.out _ _ (cell_allocQ _ c6) (fun hHeld5 => ?_)
                clear hK9 K9
                try simp only [Act.put, List.getElem_toArray, List.getElem_cons_succ, List.getElem_cons_zero, List.setIfInBounds_toArray, List.set_cons_zero, List.set_cons_succ]
                refine wpAnyH_ready (rs := [11]) (by kernel_rfl) (by simp) ?_
                refine AllReadyH.cons rfl (fun K9 hK9 => ?_) AllReadyH.nil
                have hal := one_belowQ w6 (.cells #[.string t] 9)
                have hzl := hal.size
                have HGl := Lib.hid (HG6.out.below hal)
                refine step_strQ ?_ (.tmp 42) (.tmp 46) ?_ (w.heap.size + 1) (.slice a0 s.uses.length c0) s.uses (HGl.out.uses 0 (by simp) (by simp)) (by omega) (by omega) t w6.heap.size ?_ ?_ (heap_alloc_new w6 _) ?_; rfl; rfl; rfl; rfl
                intro gn cap w8 how8 hgr8 hloc8
                have hgr8 : (w6.alloc (.cells #[.string t] 9)).grownBy w8 (Value.slice a0 s.uses.length c0).ownBlock := hgr8
                have hu0b : ∀ q, (Value.slice a0 s.uses.length c0).ownBlock = some q → w.heap.size + 1 ≤ q ∧ q < gb := fun q hq => ⟨(HGl.out.ltu (j := 0) (by simp) hq).1, HLu.out 0 (by simp) q hq⟩
                obtain ⟨hread, hcell, hfrz, -, hb2a, hb2b, hb2c⟩ := HGl.out.use0 HNx.out t (max12 (by omega)) gn cap how8 hgr8
                have hb2g : b2 < gb := HL2.out b2 rfl
                have HX8 := Lib.hid ((HX6.out.below hal).grownNe hgr8 (fun q hq => by have := hu0b q hq; omega))
                have c8 := HX8.out.c1.1
                refine hK9.out _ _ (c8) (fun hHeld6 => ?_)
                clear hK9 K9
                try simp only [Act.put, List.getElem_toArray, List.getElem_cons_succ, List.getElem_cons_zero, List.setIfInBounds_toArray, List.set_cons_zero, List.set_cons_succ]
                refine wpAnyH_take (i := 12) (v := ?v26) rfl (by kernel_rfl) (by kernel_rfl) (by kernel_rfl) (fun _ _ _ h => h) (Or.inl ⟨by kernel_rfl, ?hy26⟩) (by assumption) ?_
                case hy26 => (intro w9 hS9; (try dsimp only at hS9); go_simp; (try with_reducible rfl))
                try simp only [Act.put, List.getElem_toArray, List.getElem_cons_succ, List.getElem_cons_zero, List.setIfInBounds_toArray, List.set_cons_zero, List.set_cons_succ]
                refine wpAnyH_take (i := 13) (v := ?v27) rfl (by kernel_rfl) (by kernel_rfl) (by kernel_rfl) (fun _ _ _ h => h) (Or.inl ⟨by kernel_rfl, ?hy27⟩) (by assumption) ?_
                case hy27 => (intro w9 hS9; (try dsimp only at hS9); go_simp; (try with_reducible rfl))
                try simp only [Act.put, List.getElem_toArray, List.getElem_cons_succ, List.getElem_cons_zero, List.setIfInBounds_toArray, List.set_cons_zero, List.set_cons_succ]
                refine wpAnyH_ready (rs := [14]) (by kernel_rfl) (by simp) ?_
                refine AllReadyH.cons rfl (fun K9 hK9 => ?_) AllReadyH.nil
                rw [if_pos (by rfl)]
                go_simp
                refine hK9.out _ _ (cell_setQ (by omega) c8) (fun hHeld7 => ?_)
                clear hK9 K9
                try simp only [Act.put, List.getElem_toArray, List.getElem_cons_succ, List.getElem_cons_zero, List.setIfInBounds_toArray, List.set_cons_zero, List.set_cons_succ]
                refine wpAnyH_done (by kernel_rfl) ?_ _
                have hR8 := (hgr8.block w.heap.size (by omega) (fun e => by have := hu0b _ e.symm; omega)).trans ((hal.block w.heap.size (by omega)).trans HR6.out)
                have HEnd : Hid (EndB w (w8.setCell ⟨b2, 1, none⟩ (.slice (some ⟨gn, 0, none⟩) (s.uses.length + 1) cap)) gb g bs k (.slice a1 A.length c1) (.slice (some ⟨b2, 0, none⟩) (S.length + 1) c2)) := Lib.hid ⟨HX8.out.set _ (by omega), (Below.heap_setCell _ _ _ _ (by show w.heap.size ≠ b2; omega)).trans hR8, ⟨_, hread.mono (Nat.le_refl _) (by rw [size_set]; exact Nat.le_refl _), ⟨HNx.out.al, HNx.out.sl, HNx.out.af, fun y hy => by rcases List.mem_cons.1 hy with rfl | hy; exact ⟨(HNx.out.st s (List.mem_cons_self ..)).1, by simp; omega, fun z hz => (List.mem_append.1 hz).elim (fun h => (HNx.out.st s (List.mem_cons_self ..)).2.2 z h) (fun h => by rw [List.mem_singleton.1 h]; exact max12 (by omega))⟩; exact HNx.out.st y (List.mem_cons_of_mem _ hy)⟩⟩, ⟨k6, by omega, HS6.out.low (((hal.mono (by omega)).grown hgr8 (by omega) (fun q hq => by have := hu0b q hq; omega)).setCell (p := ⟨b2, 1, none⟩) (by show g + 1 ≤ b2; omega) _)⟩, ((HK6.out.trans (Kept.of_below hal)).then_grown hgr8 (fun q hq => by have := hu0b q hq; omega)).set_new (by omega)⟩
                clear hread hcell hfrz how8 hgr8 hloc8 hR8 c8
                obtain ⟨x0, y0⟩ := HEnd.out.box.c0
                obtain ⟨x1, y1⟩ := HEnd.out.box.c1
                obtain ⟨d0, q0⟩ := src_cell (i := 0) (v := .slice none 0 0) HEnd.out.res rfl
                obtain ⟨d1, q1⟩ := src_cell (i := 1) (v := .slice none 0 0) HEnd.out.res rfl
                go_wp2
                obtain ⟨st, hbe, hke⟩ := HEnd.out.done hgl
                exact bodyPost_ret (v := .agg #[(.slice a1 A.length c1), (.slice (some ⟨b2, 0, none⟩) (S.length + 1) c2)]) (results_cell_row (p := 2) (ty := 27) rfl _ _ w.heap.size _ _ _ _ rfl st Tryz.underlying27 rfl infoGra) rfl ⟨_, _, rfl, hbe, hke⟩
              · rw [if_pos (by rfl)]
                have hu6a := cell_allocQ (.cells #[.string t] 9) hu6
                go_simp
                refine hK9.out _ _ (cell_allocQ _ c6) (fun hHeld4 => ?_)
                clear hK9 K9
                try simp only [Act.put, List.getElem_toArray, List.getElem_cons_succ, List.getElem_cons_zero, List.setIfInBounds_toArray, List.set_cons_zero, List.set_cons_succ]
                refine wpAnyH_ready (rs := [6]) (by kernel_rfl) (by simp) ?_
                refine AllReadyH.cons rfl (fun K9 hK9 => ?_) AllReadyH.nil
                rw [if_pos (by rfl)]
                go_simp
                refine hK9.out _ _ ((by assumption)) (fun hHeld5 => ?_)
                clear hK9 K9
                try simp only [Act.put, List.getElem_toArray, List.getElem_cons_succ, List.getElem_cons_zero, List.setIfInBounds_toArray, List.set_cons_zero, List.set_cons_succ]
                refine wpAnyH_ready (rs := [11]) (by kernel_rfl) (by simp) ?_
                refine AllReadyH.cons rfl (fun K9 hK9 => ?_) AllReadyH.nil
                have hal := one_belowQ w6 (.cells #[.string t] 9)
                have hzl := hal.size
                have HGl := Lib.hid (HG6.out.below hal)
                refine step_strQ ?_ (.tmp 42) (.tmp 46) ?_ (w.heap.size + 1) (.slice a0 s.uses.length c0) s.uses (HGl.out.uses 0 (by simp) (by simp)) (by omega) (by omega) t w6.heap.size ?_ ?_ (heap_alloc_new w6 _) ?_; rfl; rfl; rfl; rfl
                intro gn cap w8 how8 hgr8 hloc8
                have hgr8 : (w6.alloc (.cells #[.string t] 9)).grownBy w8 (Value.slice a0 s.uses.length c0).ownBlock := hgr8
                have hu0b : ∀ q, (Value.slice a0 s.uses.length c0).ownBlock = some q → w.heap.size + 1 ≤ q ∧ q < gb := fun q hq => ⟨(HGl.out.ltu (j := 0) (by simp) hq).1, HLu.out 0 (by simp) q hq⟩
                obtain ⟨hread, hcell, hfrz, -, hb2a, hb2b, hb2c⟩ := HGl.out.use0 HNx.out t (max12 (by omega)) gn cap how8 hgr8
                have hb2g : b2 < gb := HL2.out b2 rfl
                have HX8 := Lib.hid ((HX6.out.below hal).grownNe hgr8 (fun q hq => by have := hu0b q hq; omega))
                have c8 := HX8.out.c1.1
                refine hK9.out _ _ (c8) (fun hHeld6 => ?_)
                clear hK9 K9
                try simp only [Act.put, List.getElem_toArray, List.getElem_cons_succ, List.getElem_cons_zero, List.setIfInBounds_toArray, List.set_cons_zero, List.set_cons_succ]
                refine wpAnyH_take (i := 12) (v := ?v28) rfl (by kernel_rfl) (by kernel_rfl) (by kernel_rfl) (fun _ _ _ h => h) (Or.inl ⟨by kernel_rfl, ?hy28⟩) (by assumption) ?_
                case hy28 => (intro w9 hS9; (try dsimp only at hS9); go_simp; (try with_reducible rfl))
                try simp only [Act.put, List.getElem_toArray, List.getElem_cons_succ, List.getElem_cons_zero, List.setIfInBounds_toArray, List.set_cons_zero, List.set_cons_succ]
                refine wpAnyH_take (i := 13) (v := ?v29) rfl (by kernel_rfl) (by kernel_rfl) (by kernel_rfl) (fun _ _ _ h => h) (Or.inl ⟨by kernel_rfl, ?hy29⟩) (by assumption) ?_
                case hy29 => (intro w9 hS9; (try dsimp only at hS9); go_simp; (try with_reducible rfl))
                try simp only [Act.put, List.getElem_toArray, List.getElem_cons_succ, List.getElem_cons_zero, List.setIfInBounds_toArray, List.set_cons_zero, List.set_cons_succ]
                refine wpAnyH_ready (rs := [14]) (by kernel_rfl) (by simp) ?_
                refine AllReadyH.cons rfl (fun K9 hK9 => ?_) AllReadyH.nil
                rw [if_pos (by rfl)]
                go_simp
                refine hK9.out _ _ (cell_setQ (by omega) c8) (fun hHeld7 => ?_)
                clear hK9 K9
                try simp only [Act.put, List.getElem_toArray, List.getElem_cons_succ, List.getElem_cons_zero, List.setIfInBounds_toArray, List.set_cons_zero, List.set_cons_succ]
                refine wpAnyH_done (by kernel_rfl) ?_ _
                have hR8 := (hgr8.block w.heap.size (by omega) (fun e => by have := hu0b _ e.symm; omega)).trans ((hal.block w.heap.size (by omega)).trans HR6.out)
                have HEnd : Hid (EndB w (w8.setCell ⟨b2, 1, none⟩ (.slice (some ⟨gn, 0, none⟩) (s.uses.length + 1) cap)) gb g bs k (.slice a1 A.length c1) (.slice (some ⟨b2, 0, none⟩) (S.length + 1) c2)) := Lib.hid ⟨HX8.out.set _ (by omega), (Below.heap_setCell _ _ _ _ (by show w.heap.size ≠ b2; omega)).trans hR8, ⟨_, hread.mono (Nat.le_refl _) (by rw [size_set]; exact Nat.le_refl _), ⟨HNx.out.al, HNx.out.sl, HNx.out.af, fun y hy => by rcases List.mem_cons.1 hy with rfl | hy; exact ⟨(HNx.out.st s (List.mem_cons_self ..)).1, by simp; omega, fun z hz => (List.mem_append.1 hz).elim (fun h => (HNx.out.st s (List.mem_cons_self ..)).2.2 z h) (fun h => by rw [List.mem_singleton.1 h]; exact max12 (by omega))⟩; exact HNx.out.st y (List.mem_cons_of_mem _ hy)⟩⟩, ⟨k6, by omega, HS6.out.low (((hal.mono (by omega)).grown hgr8 (by omega) (fun q hq => by have := hu0b q hq; omega)).setCell (p := ⟨b2, 1, none⟩) (by show g + 1 ≤ b2; omega) _)⟩, ((HK6.out.trans (Kept.of_below hal)).then_grown hgr8 (fun q hq => by have := hu0b q hq; omega)).set_new (by omega)⟩
                clear hread hcell hfrz how8 hgr8 hloc8 hR8 c8
                obtain ⟨x0, y0⟩ := HEnd.out.box.c0
                obtain ⟨x1, y1⟩ := HEnd.out.box.c1
                obtain ⟨d0, q0⟩ := src_cell (i := 0) (v := .slice none 0 0) HEnd.out.res rfl
                obtain ⟨d1, q1⟩ := src_cell (i := 1) (v := .slice none 0 0) HEnd.out.res rfl
                go_wp2
                obtain ⟨st, hbe, hke⟩ := HEnd.out.done hgl
                exact bodyPost_ret (v := .agg #[(.slice a1 A.length c1), (.slice (some ⟨b2, 0, none⟩) (S.length + 1) c2)]) (results_cell_row (p := 2) (ty := 27) rfl _ _ w.heap.size _ _ _ _ rfl st Tryz.underlying27 rfl infoGra) rfl ⟨_, _, rfl, hbe, hke⟩
      · by_cases r3 : r = 3
        · have hrI : (r : Int) = 3 := by omega
          rw [hrI]
          clear hrI hr
          obtain ⟨x0, y0⟩ := HX3.out.c0
          obtain ⟨x1, y1⟩ := HX3.out.c1
          have st4 := store2 (show w3.heap[gb]? = some _ from HX3.out) (.slice none 0 0) (.slice none 0 0)
          have HX4 : Hid (BoxG ((w3.setCell ⟨gb, 0, none⟩ (.slice none 0 0)).setCell ⟨gb, 1, none⟩ (.slice none 0 0)) gb (.slice none 0 0) (.slice none 0 0)) := Lib.hid st4.1
          have HR4 := Lib.hid ((st4.2.1.block w.heap.size (by omega) (.inl (by omega))).trans HR3.out)
          have HS4 := Lib.hid (HS3.out.low (st4.2.1.below (by omega) (by omega)))
          have HK4 := Lib.hid (HK3.out.then_new st4.2.1 (by omega))
          have hz4 : gb + 1 ≤ ((w3.setCell ⟨gb, 0, none⟩ (.slice none 0 0)).setCell ⟨gb, 1, none⟩ (.slice none 0 0)).heap.size := by rw [st4.2.2]; omega
          have HG4 := Lib.hid (GO.nil ((w3.setCell ⟨gb, 0, none⟩ (.slice none 0 0)).setCell ⟨gb, 1, none⟩ (.slice none 0 0)) (gb + 1))
          clear st4
          go_wp2
          generalize (w3.setCell ⟨gb, 0, none⟩ (.slice none 0 0)).setCell ⟨gb, 1, none⟩ (.slice none 0 0) = w4 at HX4 HR4 HS4 HK4 hz4 HG4 ⊢
          clear x0 y0 x1 y1
          go_loopw [4] (fun i wr => ∃ (n kr : Nat) (v2 : Value) (S : List StemD) (us : List Value), i = .int .i64 (n : Int) ∧ n ≤ 31 ∧ S.length ≤ n ∧ kr ≤ k + 1010 + 2 * n ∧ Hid (SrcW wr g bs kr) ∧ Hid (BoxG wr gb (.slice none 0 0) v2) ∧ Hid (GO wr (gb + 1) (.slice none 0 0) v2 ⟨[], S⟩ us) ∧ Hid (GraN ⟨[], S⟩) ∧ Hid (KeepQ (gb + 1) gb g w4 wr)) (fun i _ => 40 - (intOf i).toNat)
          case atStart => exact ⟨0, k3, _, [], [], rfl, by omega, by simp, by omega, HS4, HX4, HG4, Lib.hid GraN.nil, Lib.hid (KeepQ.refl _ _ _ _)⟩
          case round =>
            clear HS4 HX4 HG4
            obtain ⟨n, kr, v2, S, us, rfl, hn31, hSn, hkr, HSr, HXr, HGr, HLr, HKr⟩ := hrel
            have hszr := HKr.out.size
            obtain ⟨-, -, a5, c5, -, ev2⟩ := HGr.out.shape
            subst ev2
            have ev2 : (GraD.mk [] S).stems.length = S.length := rfl
            rw [ev2] at HGr HXr
            clear ev2
            go_wp2_with fail
            refine (pick_any g bs kr 2 _ _ HSr.out (by omega) rfl (by omega)).mono ?_
            rintro e w5 ⟨r5, k5, rfl, hr5, hk5, hs5, hkk5⟩
            have hz5 := hkk5.size
            have HX5 := Lib.hid (HXr.out.kept hkk5 (.inr (by omega)))
            have HG5 := Lib.hid (HGr.out.kept hkk5 (by omega))
            have HK5 := Lib.hid (HKr.out.trans (KeepQ.of_kept hkk5 (by omega)))
            have HS5 := Lib.hid hs5
            have hr5 : r5 ≤ 1 := by omega
            have hr5I : (r5 : Int) ≤ 1 := by omega
            clear hs5 hkk5
            by_cases hlt : n < 30 + r5
            · have hltI : (n : Int) < 30 + (r5 : Int) := by omega
              have h26 : (n : Int) / 26 ≤ 1 := by omega
              have h26b : 0 ≤ (n : Int) / 26 := by omega
              have h26c : (n : Int) % 26 ≤ 25 := by omega
              have h26d : 0 ≤ (n : Int) % 26 := by omega
              have hcv3 : ∃ s : ByteArray, s.size = 3 ∧ (convert 22 9 (.slice (some ⟨w5.heap.size, 0, none⟩) 3 3)).run Tryz.prog (w5.alloc (.cells #[.int .u8 97, .int .u8 (97 + (n : Int) / 26), .int .u8 (97 + (n : Int) % 26)] 5)) = .ok (.string s) (w5.alloc (.cells #[.int .u8 97, .int .u8 (97 + (n : Int) / 26), .int .u8 (97 + (n : Int) % 26)] 5)) := ⟨_, rfl, conv3 w5 97 (UInt8.ofNat (97 + n / 26)) (UInt8.ofNat (97 + n % 26)) _ _ _ rfl (by simp; omega) (by simp; omega)⟩
              obtain ⟨s, hs3, hcv⟩ := hcv3
              have hSl : S.length ≤ 50 := by omega
              have hbe := one_belowQ w5 (.cells #[.int .u8 97, .int .u8 (97 + (n : Int) / 26), .int .u8 (97 + (n : Int) % 26)] 5)
              have hbf := one_belowQ ((w5.alloc (.cells #[.int .u8 97, .int .u8 (97 + (n : Int) / 26), .int .u8 (97 + (n : Int) % 26)] 5))) (.cells #[.string s, .slice none 0 0] 59)
              have HGf := Lib.hid ((HG5.out.below hbe).below hbf)
              have HXf := Lib.hid ((HX5.out.below hbe).below hbf)
              have HBf := Lib.hid ((hbe : Below w5.heap.size w5 _).trans (hbf.mono hbe.size))
              have hBf : gb + 1 ≤ ((w5.alloc (.cells #[.int .u8 97, .int .u8 (97 + (n : Int) / 26), .int .u8 (97 + (n : Int) % 26)] 5)).alloc (.cells #[.string s, .slice none 0 0] 59)).heap.size := Nat.le_trans (by omega) HBf.out.size
              have Hs3 := Lib.hid hs3
              clear hbe hbf
              obtain ⟨x5, y5⟩ := HX5.out.c1
              go_wp2_with (first | (at_builtin; refine GO.app_stem rfl (.tmp 61) (.tmp 73) rfl HGf.out hBf (by show S.length ≤ 1000; omega) ⟨s, []⟩ none 0 0 _ rfl rfl (heap_alloc2_new w5 _ _) (World.ownsRow_nil _ _ _ _) (fun q hq => by simp [Value.ownBlock] at hq) ?_; intro gn cap w8 hg8 hgr8 hloc8; have HX8 := Lib.hid (HXf.out.grown hgr8 (fun q hq => by have := (HGf.out.lt2 hq).1; omega)); obtain ⟨x8, y8⟩ := HX8.out.c1) | fail)
              have HKK := Lib.hid (((KeepQ.of_below (B := gb + 1) (gb := gb) (g := gb) HBf.out (by omega)).trans (KeepQ.of_grown hgr8 (fun q hq => (HGf.out.lt2 hq).1) hBf)).trans (KeepQ.of_set (i := 1) (u := (.slice (some ⟨gn, 0, none⟩) (S.length + 1) cap))))
              have HS9 := Lib.hid (HS5.out.low (HKK.out.low (by omega) (by omega)))
              have HX9 := Lib.hid (HX8.out.set1 (.slice (some ⟨gn, 0, none⟩) (S.length + 1) cap))
              have HG9 := Lib.hid (hg8.set (g := gb) (i := 1) (u := (.slice (some ⟨gn, 0, none⟩) (S.length + 1) cap)) (by omega))
              have HL9 := Lib.hid (HLr.out.stem (s := ⟨s, []⟩) ⟨max12 (by show s.size ≤ 60; rw [Hs3.out]; decide), (Nat.zero_le _ : 0 ≤ 60), by simp⟩ (by show S.length < 60; omega))
              have HK9 := Lib.hid (HK5.out.trans HKK.out.weak)
              clear hg8 hgr8 hloc8
              go_roundw
              case rel => exact ⟨n + 1, k5, _, S ++ [⟨s, []⟩], us ++ [.slice none 0 0], by go_num, by omega, by simp; omega, by omega, HS9, HX9, HG9, HL9, HK9⟩
              case measure => simp [intOf]; omega
            · have hltI : ¬ ((n : Int) < 30 + (r5 : Int)) := by omega
              have HEnd : Hid (EndB w w5 gb g bs k (.slice none 0 0) (.slice a5 S.length c5)) := Lib.hid ⟨HX5.out, (HK5.out.block w.heap.size (by omega) (by omega) (by omega)).trans HR4.out, ⟨_, (HG5.out.graW HLr.out).mono (by omega) (Nat.le_refl _), HLr.out⟩, ⟨k5, by omega, HS5.out⟩, HK5.out.kept HK4.out (by omega) (by omega)⟩
              obtain ⟨x0, y0⟩ := HEnd.out.box.c0
              obtain ⟨x1, y1⟩ := HEnd.out.box.c1
              obtain ⟨d0, q0⟩ := src_cell (i := 0) (v := .slice none 0 0) HEnd.out.res rfl
              obtain ⟨d1, q1⟩ := src_cell (i := 1) (v := .slice none 0 0) HEnd.out.res rfl
              go_wp2
              obtain ⟨st, hbe, hke⟩ := HEnd.out.done hgl
              exact bodyPost_ret (v := .agg #[(.slice none 0 0), (.slice a5 S.length c5)]) (results_cell_row (p := 2) (ty := 27) rfl _ _ w.heap.size _ _ _ _ rfl st Tryz.underlying27 rfl infoGra) rfl ⟨_, _, rfl, hbe, hke⟩
        · by_cases r4 : r = 4
          · have hrI : (r : Int) = 4 := by omega
            rw [hrI]
            clear hrI hr
            obtain ⟨x0, y0⟩ := HX3.out.c0
            obtain ⟨x1, y1⟩ := HX3.out.c1
            have st4 := store2 (show w3.heap[gb]? = some _ from HX3.out) (.slice none 0 0) (.slice none 0 0)
            have HX4 : Hid (BoxG ((w3.setCell ⟨gb, 0, none⟩ (.slice none 0 0)).setCell ⟨gb, 1, none⟩ (.slice none 0 0)) gb (.slice none 0 0) (.slice none 0 0)) := Lib.hid st4.1
            have HR4 := Lib.hid ((st4.2.1.block w.heap.size (by omega) (.inl (by omega))).trans HR3.out)
            have HS4 := Lib.hid (HS3.out.low (st4.2.1.below (by omega) (by omega)))
            have HK4 := Lib.hid (HK3.out.then_new st4.2.1 (by omega))
            have hz4 : gb + 1 ≤ ((w3.setCell ⟨gb, 0, none⟩ (.slice none 0 0)).setCell ⟨gb, 1, none⟩ (.slice none 0 0)).heap.size := by rw [st4.2.2]; omega
            have HG4 := Lib.hid (GO.nil ((w3.setCell ⟨gb, 0, none⟩ (.slice none 0 0)).setCell ⟨gb, 1, none⟩ (.slice none 0 0)) (gb + 1))
            clear st4
            go_wp2
            generalize (w3.setCell ⟨gb, 0, none⟩ (.slice none 0 0)).setCell ⟨gb, 1, none⟩ (.slice none 0 0) = w4 at HX4 HR4 HS4 HK4 hz4 HG4 ⊢
            clear x0 y0 x1 y1
            go_loopw [5] (fun i wr => ∃ (n kr : Nat) (v1 : Value) (A : List AffD), i = .int .i64 (n : Int) ∧ n ≤ 13 ∧ A.length ≤ n ∧ kr ≤ k + 1010 + 2 * n ∧ Hid (SrcW wr g bs kr) ∧ Hid (BoxG wr gb v1 (.slice none 0 0)) ∧ Hid (GO wr (gb + 1) v1 (.slice none 0 0) ⟨A, []⟩ []) ∧ Hid (GraN ⟨A, []⟩) ∧ Hid (KeepQ (gb + 1) gb g w4 wr)) (fun i _ => 40 - (intOf i).toNat)
            case atStart => exact ⟨0, k3, _, [], rfl, by omega, by simp, by omega, HS4, HX4, HG4, Lib.hid GraN.nil, Lib.hid (KeepQ.refl _ _ _ _)⟩
            case round =>
              clear HS4 HX4 HG4
              obtain ⟨n, kr, v1, A, rfl, hn13, hAn, hkr, HSr, HXr, HGr, HLr, HKr⟩ := hrel
              have hszr := HKr.out.size
              obtain ⟨a5, c5, -, -, ev2, -⟩ := HGr.out.shape
              subst ev2
              have ev2 : (GraD.mk A []).affixes.length = A.length := rfl
              rw [ev2] at HGr HXr
              clear ev2
              go_wp2_with fail
              refine (pick_any g bs kr 2 _ _ HSr.out (by omega) rfl (by omega)).mono ?_
              rintro e w5 ⟨r5, k5, rfl, hr5, hk5, hs5, hkk5⟩
              have hz5 := hkk5.size
              have HX5 := Lib.hid (HXr.out.kept hkk5 (.inr (by omega)))
              have HG5 := Lib.hid (HGr.out.kept hkk5 (by omega))
              have HK5 := Lib.hid (HKr.out.trans (KeepQ.of_kept hkk5 (by omega)))
              have HS5 := Lib.hid hs5
              have hr5 : r5 ≤ 1 := by omega
              have hr5I : (r5 : Int) ≤ 1 := by omega
              clear hs5 hkk5
              by_cases hlt : n < 12 + r5
              · have hltI : (n : Int) < 12 + (r5 : Int) := by omega
                have hn12I : (n : Int) ≤ 12 := by omega
                have hAl : A.length ≤ 50 := by omega
                have hbe := one_belowQ w5 (.cells #[.int .u8 (97 + (n : Int))] 5)
                have hbe2 := one_belowQ (w5.alloc (.cells #[.int .u8 (97 + (n : Int))] 5)) (.cells #[.int .u8 (97 + (n : Int))] 5)
                have hbf := one_belowQ ((w5.alloc (.cells #[.int .u8 (97 + (n : Int))] 5)).alloc (.cells #[.int .u8 (97 + (n : Int))] 5)) (.cells (affV ⟨⟨#[97 + UInt8.ofNat n]⟩, false, ⟨#[]⟩, ⟨#[]⟩, ⟨#[97 + UInt8.ofNat n]⟩⟩) 51)
                have HGf := Lib.hid (((HG5.out.below hbe).below hbe2).below hbf)
                have HXf := Lib.hid (((HX5.out.below hbe).below hbe2).below hbf)
                have HBf := Lib.hid (((hbe : Below w5.heap.size w5 _).trans (hbe2.mono hbe.size)).trans (hbf.mono (Nat.le_trans hbe.size hbe2.size)))
                have hBf : gb + 1 ≤ (((w5.alloc (.cells #[.int .u8 (97 + (n : Int))] 5)).alloc (.cells #[.int .u8 (97 + (n : Int))] 5)).alloc (.cells (affV ⟨⟨#[97 + UInt8.ofNat n]⟩, false, ⟨#[]⟩, ⟨#[]⟩, ⟨#[97 + UInt8.ofNat n]⟩⟩) 51)).heap.size := Nat.le_trans (by omega) HBf.out.size
                clear hbe hbe2 hbf
                have hcv2 : (convert 22 9 (.slice (some ⟨w5.heap.size + 1, 0, none⟩) 1 1)).run Tryz.prog ((w5.alloc (.cells #[.int .u8 (97 + (n : Int))] 5)).alloc (.cells #[.int .u8 (97 + (n : Int))] 5)) = .ok (.string ⟨#[97 + UInt8.ofNat n]⟩) ((w5.alloc (.cells #[.int .u8 (97 + (n : Int))] 5)).alloc (.cells #[.int .u8 (97 + (n : Int))] 5)) := by have h := conv1 (w5.alloc (.cells #[.int .u8 (97 + (n : Int))] 5)) (97 + UInt8.ofNat n) (97 + (n : Int)) (by simp; omega); rw [World.size_alloc] at h; exact h
                obtain ⟨x5, y5⟩ := HX5.out.c0
                go_wp2_with (first | (at_builtin; refine GO.app_affix rfl (.tmp 87) (.tmp 99) rfl HGf.out hBf (by show A.length ≤ 1000; omega) ⟨⟨#[97 + UInt8.ofNat n]⟩, false, ⟨#[]⟩, ⟨#[]⟩, ⟨#[97 + UInt8.ofNat n]⟩⟩ _ rfl rfl (heap3_2 w5 _ _ _) ?_; intro gn cap w8 hg8 hgr8 hloc8; have HX8 := Lib.hid (HXf.out.grown hgr8 (fun q hq => by have := (HGf.out.lt1 hq).1; omega)); obtain ⟨x8, y8⟩ := HX8.out.c0) | fail)
                have HKK := Lib.hid (((KeepQ.of_below (B := gb + 1) (gb := gb) (g := gb) HBf.out (by omega)).trans (KeepQ.of_grown hgr8 (fun q hq => (HGf.out.lt1 hq).1) hBf)).trans (KeepQ.of_set (i := 0) (u := (.slice (some ⟨gn, 0, none⟩) (A.length + 1) cap))))
                have HS9 := Lib.hid (HS5.out.low (HKK.out.low (by omega) (by omega)))
                have HX9 := Lib.hid (HX8.out.set0 (.slice (some ⟨gn, 0, none⟩) (A.length + 1) cap))
                have HG9 := Lib.hid (hg8.set (g := gb) (i := 0) (u := (.slice (some ⟨gn, 0, none⟩) (A.length + 1) cap)) (by omega))
                have HL9 := Lib.hid (HLr.out.affix (a := ⟨⟨#[97 + UInt8.ofNat n]⟩, false, ⟨#[]⟩, ⟨#[]⟩, ⟨#[97 + UInt8.ofNat n]⟩⟩) ⟨max12 (show (1 : Nat) ≤ 60 by decide), (Nat.zero_le _ : 0 ≤ maxLen), (Nat.zero_le _ : 0 ≤ maxLen), max12 (show (1 : Nat) ≤ 60 by decide)⟩ (by show A.length < 60; omega))
                have HK9 := Lib.hid (HK5.out.trans HKK.out.weak)
                clear hg8 hgr8 hloc8
                go_roundw
                case rel => exact ⟨n + 1, k5, _, A ++ [⟨⟨#[97 + UInt8.ofNat n]⟩, false, ⟨#[]⟩, ⟨#[]⟩, ⟨#[97 + UInt8.ofNat n]⟩⟩], by go_num, by omega, by simp; omega, by omega, HS9, HX9, HG9, HL9, HK9⟩
                case measure => simp [intOf]; omega
              · have hltI : ¬ ((n : Int) < 12 + (r5 : Int)) := by omega
                have HEnd : Hid (EndB w w5 gb g bs k (.slice a5 A.length c5) (.slice none 0 0)) := Lib.hid ⟨HX5.out, (HK5.out.block w.heap.size (by omega) (by omega) (by omega)).trans HR4.out, ⟨_, (HG5.out.graW HLr.out).mono (by omega) (Nat.le_refl _), HLr.out⟩, ⟨k5, by omega, HS5.out⟩, HK5.out.kept HK4.out (by omega) (by omega)⟩
                obtain ⟨x0, y0⟩ := HEnd.out.box.c0
                obtain ⟨x1, y1⟩ := HEnd.out.box.c1
                obtain ⟨d0, q0⟩ := src_cell (i := 0) (v := .slice none 0 0) HEnd.out.res rfl
                obtain ⟨d1, q1⟩ := src_cell (i := 1) (v := .slice none 0 0) HEnd.out.res rfl
                go_wp2
                obtain ⟨st, hbe, hke⟩ := HEnd.out.done hgl
                exact bodyPost_ret (v := .agg #[(.slice a5 A.length c5), (.slice none 0 0)]) (results_cell_row (p := 2) (ty := 27) rfl _ _ w.heap.size _ _ _ _ rfl st Tryz.underlying27 rfl infoGra) rfl ⟨_, _, rfl, hbe, hke⟩
          · by_cases r5 : r = 5
            · have hrI : (r : Int) = 5 := by omega
              rw [hrI]
              clear hrI hr
              go_wp2_with fail
              refine (pick_any g bs k3 2 _ _ HS3.out (by omega) rfl (by omega)).mono ?_
              rintro e w4 ⟨r4, k4, rfl, hr4, hk4, hs4, hkk4⟩
              have hz4 := hkk4.size
              have HX4 := Lib.hid (HX3.out.kept hkk4 (.inr (by omega)))
              have HR4 := Lib.hid ((hkk4.block w.heap.size (by omega) (.inr (by omega))).trans HR3.out)
              have HK4 := Lib.hid (HK3.out.trans hkk4)
              have HS4 := Lib.hid hs4
              have hz5 : (r4 : Int) = 0 ∨ (r4 : Int) = 1 := by omega
              clear hkk4 hs4 hr4
              go_wp2_with fail
              refine (l04Many_any _ w4 hz5).mono ?_
              rintro e w5 ⟨v5, u5, rfl, ⟨y, hy, hyn⟩, hb5⟩
              have hz6 := hb5.size
              obtain ⟨b1, j1, b2, j2, esh⟩ := hy.shape
              injection esh with esh
              simp only [Array.mk.injEq, List.cons.injEq, and_true] at esh
              obtain ⟨e5, e6⟩ := esh
              subst e5 e6
              have HX5 := Lib.hid (HX4.out.below hb5)
              obtain ⟨x5, y5⟩ := HX5.out.c0
              obtain ⟨x6, y6⟩ := HX5.out.c1
              have HR5 := Lib.hid ((hb5.block w.heap.size (by omega)).trans HR4.out)
              have HS5 := Lib.hid (HS4.out.below hb5)
              have HK5 := Lib.hid (HK4.out.trans (Kept.of_below hb5))
              have HY := Lib.hid hy
              have HYn := Lib.hid hyn
              clear hb5 hy hyn
              go_upto_region 24 with fail
              have st5 := store2 (show w5.heap[gb]? = some _ from HX5.out) (.slice b1 y.affixes.length j1) (.slice b2 y.stems.length j2)
              have HEnd : Hid (EndB w ((w5.setCell ⟨gb, 0, none⟩ (.slice b1 y.affixes.length j1)).setCell ⟨gb, 1, none⟩ (.slice b2 y.stems.length j2)) gb g bs k (.slice b1 y.affixes.length j1) (.slice b2 y.stems.length j2)) := Lib.hid ⟨st5.1, (st5.2.1.block w.heap.size (by omega) (.inl (by omega))).trans HR5.out, ⟨y, (HY.out.kept st5.2.1 (.inr (by omega))).mono (by omega) (by rw [st5.2.2]; exact Nat.le_refl _), HYn.out⟩, ⟨k4, by omega, HS5.out.low (st5.2.1.below (by omega) (by omega))⟩, HK5.out.then_new st5.2.1 (by omega)⟩
              clear st5 x5 y5 x6 y6
              obtain ⟨x0, y0⟩ := HEnd.out.box.c0
              obtain ⟨x1, y1⟩ := HEnd.out.box.c1
              obtain ⟨d0, q0⟩ := src_cell (i := 0) (v := .slice none 0 0) HEnd.out.res rfl
              obtain ⟨d1, q1⟩ := src_cell (i := 1) (v := .slice none 0 0) HEnd.out.res rfl
              go_wp2
              obtain ⟨st, hbe, hke⟩ := HEnd.out.done hgl
              exact bodyPost_ret (v := .agg #[(.slice b1 y.affixes.length j1), (.slice b2 y.stems.length j2)]) (results_cell_row (p := 2) (ty := 27) rfl _ _ w.heap.size _ _ _ _ rfl st Tryz.underlying27 rfl infoGra) rfl ⟨_, _, rfl, hbe, hke⟩
            · have hn0 : ¬ ((r : Int) = 0) := by omega
              have hn1 : ¬ ((r : Int) = 1) := by omega
              have hn2 : ¬ ((r : Int) = 2) := by omega
              have hn3 : ¬ ((r : Int) = 3) := by omega
              have hn4 : ¬ ((r : Int) = 4) := by omega
              have hn5 : ¬ ((r : Int) = 5) := by omega
              have HEnd : Hid (EndB w w3 gb g bs k (.slice a1 x.affixes.length c1) (.slice a2 x.stems.length c2)) := Lib.hid ⟨HX3.out, HR3.out, ⟨x, HG3.out.graW HNx.out, HNx.out⟩, ⟨k3, by omega, HS3.out⟩, HK3.out⟩
              obtain ⟨x0, y0⟩ := HEnd.out.box.c0
              obtain ⟨x1, y1⟩ := HEnd.out.box.c1
              obtain ⟨d0, q0⟩ := src_cell (i := 0) (v := .slice none 0 0) HEnd.out.res rfl
              obtain ⟨d1, q1⟩ := src_cell (i := 1) (v := .slice none 0 0) HEnd.out.res rfl
              go_wp2
              obtain ⟨st, hbe, hke⟩ := HEnd.out.done hgl
              exact bodyPost_ret (v := .agg #[(.slice a1 x.affixes.length c1), (.slice a2 x.stems.length c2)]) (results_cell_row (p := 2) (ty := 27) rfl _ _ w.heap.size _ _ _ _ rfl st Tryz.underlying27 rfl infoGra) rfl ⟨_, _, rfl, hbe, hke⟩
end Go.Proofs.YtndfhmphlomeiaaGreatDoor
