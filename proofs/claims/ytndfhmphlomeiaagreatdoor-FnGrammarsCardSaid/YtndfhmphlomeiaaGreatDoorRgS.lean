/- ReadGrammar of the reference: a line. Conditions: the readings; Go's own bound on the bytes of a slice. -/
import Derived.Test.YtndfhmphlomeiaaGreatDoorK2
import Derived.Deep.DeepCutAuto
set_option linter.unusedSimpArgs false
namespace Go.Proofs.YtndfhmphlomeiaaGreatDoor
open Go.RowKit
attribute [local irreducible] Calls
theorem l04Unpart_is {s r : ByteArray} (h : unB s = r) (w : World) : Calls Tryz.prog 58 #[.string s] w fun e w' => e = .returned (.string r) ∧ w = w' := by
  subst h
  cases h : (s.toList == [45])
  · have H := Lib.hid (show unB s = s by simp [unB, h])
    go_enter Tryz.func58, Tryz.ntmps58
    go_wp2
    go_ret
    exact ⟨ret_str H.out.symm, rfl⟩
  · have H := Lib.hid (show unB s = ⟨#[]⟩ by simp [unB, h])
    go_enter Tryz.func58, Tryz.ntmps58
    go_wp2
    go_ret
    exact ⟨ret_str H.out.symm, rfl⟩
theorem unB_le {s : ByteArray} {m : Nat} (h : s.size ≤ m) : (unB s).size ≤ m := by
  unfold unB; split
  · exact Nat.zero_le _
  · exact h
theorem one_belowS (w : World) (a : Obj) : Below w.heap.size w (w.alloc a).drew := ((Below.refl _ _).alloc (Nat.le_refl _) a).drew
theorem new_cells (w : World) (cs : Array Value) (t : TypeId) (l : List Value) (h : l = cs.toList) : ∀ j u, l[j]? = some u → (w.alloc (.cells cs t)).drew.cell? ((⟨w.heap.size, 0, none⟩ : Addr).add j) = some u := by
  subst h
  exact World.news_of_block (w := (w.alloc (.cells cs t)).drew) (heap_alloc_new w (.cells cs t))
theorem affL_one {x : AffD} : ∀ u ∈ affL x, u.oneCell' = true := by
  intro u hu
  simp only [affL, List.mem_cons, List.not_mem_nil, or_false] at hu
  rcases hu with rfl | rfl | rfl | rfl | rfl <;> rfl
theorem cell_of_sameR {w w' : World} {b o : Nat} {u : Value} (h : w'.heap[b]? = w.heap[b]?) (hc : w.cell? ⟨b, o, none⟩ = some u) : w'.cell? ⟨b, o, none⟩ = some u := by
  rw [← hc]; simp only [World.cell?, h]
theorem cell_setR {w : World} {b o g o2 : Nat} {u v : Value} (h : g ≠ b) (hc : w.cell? ⟨b, o, none⟩ = some u) : (w.setCell ⟨g, o2, none⟩ v).cell? ⟨b, o, none⟩ = some u :=
  cell_of_sameR (Below.heap_setCell _ _ _ _ (show b ≠ g from Ne.symm h)) hc
theorem own_emptyS (w : World) : OwnS (w.alloc (.cells #[] 9)).drew w.heap.size (.slice (some ⟨w.heap.size, 0, none⟩) 0 0) [] := OwnS.made w w.heap.size (Nat.le_refl _)
theorem own_strsS {w : World} {B g n cap : Nat} {l : List ByteArray} (h : OwnS w B (.slice (some ⟨g, 0, none⟩) n cap) l) (hs : ∀ s ∈ l, s.size ≤ maxLen) : StrsW w g (g + 1) (.slice (some ⟨g, 0, none⟩) n cap) l := by
  obtain ⟨k, hk, hx⟩ := own_exact h g
  have : k = g := by
    rcases hk with ⟨h1, -⟩ | ⟨h1, -⟩
    · exact (Option.some.inj h1).symm
    · cases h1
  subst this
  exact ⟨hx, hs⟩
theorem new_cells2 (w : World) (cs : Array Value) (t : TypeId) (l : List Value) (h : l = cs.toList) : ∀ j u, l[j]? = some u → (w.alloc (.cells cs t)).cell? ((⟨w.heap.size, 0, none⟩ : Addr).add j) = some u := by
  subst h
  exact World.news_of_block (w := w.alloc (.cells cs t)) (heap_alloc_new w (.cells cs t))
theorem stm_oneS {s : ByteArray} {a : Option Addr} {n c : Nat} : ∀ u ∈ [Value.string s, .slice a n c], u.oneCell' = true := by
  intro u hu
  simp only [List.mem_cons, List.not_mem_nil, or_false] at hu
  rcases hu with rfl | rfl <;> rfl
/-- What l04Line leaves. -/
def LineQ (B gb : Nat) (g : GraD) (ws : List ByteArray) (w : World) (e : Ending) (w' : World) : Prop :=
  e = .returned (.bool (specLine g ws).isSome) ∧ (∀ g', specLine g ws = some g' → ∃ v1 v2 q us, GB w' B gb v1 v2 g' q us) ∧ KeepG B gb w w'
theorem LineQ.no {B gb : Nat} {g : GraD} {ws : List ByteArray} {w w' : World} (h : specLine g ws = none) (hk : KeepG B gb w w') : LineQ B gb g ws w (.returned (.bool false)) w' := by
  refine ⟨by rw [h]; rfl, fun g' e => ?_, hk⟩
  rw [h] at e; cases e
theorem LineQ.yes {B gb : Nat} {g g' : GraD} {ws : List ByteArray} {w w' : World} {u1 u2 : Value} {q : Nat → Nat} {us : List Value} (h : specLine g ws = some g') (hg : GB w' B gb u1 u2 g' q us) (hk : KeepG B gb w w') : LineQ B gb g ws w (.returned (.bool true)) w' := by
  refine ⟨by rw [h]; rfl, fun g2 e => ?_, hk⟩
  rw [h] at e; cases e
  exact ⟨u1, u2, q, us, hg⟩
set_option maxHeartbeats 16000000 in
set_option maxRecDepth 100000 in
theorem l04Line_any (B gb : Nat) (v1 v2 : Value) (g : GraD) (q : Nat → Nat) (us : List Value) (vw : Value) (ws : List ByteArray) (w0 w : World) (hg : GB w0 B gb v1 v2 g q us) (hb : Below w0.heap.size w0 w) (hB : B ≤ w0.heap.size) (hw : StrsW w w0.heap.size w.heap.size vw ws) (hn : 1 ≤ ws.length) (hn2 : ws.length ≤ 1048577) (hga : g.affixes.length ≤ 1000) (hgs : g.stems.length ≤ 1000) :
    Calls Tryz.prog 33 #[.pointer (some ⟨gb, 0, none⟩), vw] w fun e w' => LineQ B gb g ws w e w' := by
  obtain ⟨a, c, rfl, hl, hc, hcs⟩ := hw.read.shape
  obtain ⟨b0, o0, rfl, hc0, hs0⟩ := hcs 0 (by omega)
  obtain ⟨a2, c2, rfl, hl2, hk2⟩ := own_shape hg.stm
  obtain ⟨a1, c1, rfl, hl1, hk1⟩ := own_shape hg.aff
  have HG0 := Lib.hid hg
  have HG := Lib.hid (hg.below hb)
  have hBw0 := hB
  have hw1 := HG.out.cell1.1
  have hw0 := HG.out.cell0.1
  have HC := Lib.hid hcs
  have e0 : atW ws 0 = ws[0] := atW_at (by omega)
  unfold maxLen at hc hk2 hk1
  rw [Nat.add_zero] at hc0
  have h0I : (0 : Int) < (ws.length : Int) := by omega
  have HW := Lib.hid hw
  have HBw := Lib.hid hb
  clear hcs hg hw hb
  by_cases hA : (ws[0].toList == affKey) = true ∧ ws.length = 6 ∧ g.stems.length = 0
  · obtain ⟨h1, h2, h3⟩ := hA
    obtain ⟨b1', o1', e1, hc1, -⟩ := HC.out 1 (by omega)
    cases e1
    obtain ⟨b1', o1', e1, hc2, -⟩ := HC.out 2 (by omega)
    cases e1
    obtain ⟨b1', o1', e1, hc3, -⟩ := HC.out 3 (by omega)
    cases e1
    obtain ⟨b1', o1', e1, hc4, -⟩ := HC.out 4 (by omega)
    cases e1
    obtain ⟨b1', o1', e1, hc5, -⟩ := HC.out 5 (by omega)
    cases e1
    have h6 : ((ws.length : Int) == 6) = true := by rw [beq_iff_eq]; omega
    have h00 : ((g.stems.length : Int) == 0) = true := by rw [beq_iff_eq]; omega
    unfold affKey at h1
    have hl1I : (1 : Int) < (ws.length : Int) := by omega
    have hl2I : (2 : Int) < (ws.length : Int) := by omega
    have hl3I : (3 : Int) < (ws.length : Int) := by omega
    have hl4I : (4 : Int) < (ws.length : Int) := by omega
    have hl5I : (5 : Int) < (ws.length : Int) := by omega
    obtain ⟨p3, hp3⟩ : ∃ p, unB ws[3] = p := ⟨_, rfl⟩
    obtain ⟨p4, hp4⟩ : ∃ p, unB ws[4] = p := ⟨_, rfl⟩
    obtain ⟨p5, hp5⟩ : ∃ p, unB ws[5] = p := ⟨_, rfl⟩
    obtain ⟨fb, hfb⟩ : ∃ fb, (ws[2].toList == [102, 114, 111, 110, 116]) = fb := ⟨_, rfl⟩
    have HP := Lib.hid (And.intro hp3 (And.intro hp4 hp5))
    have hsz := HW.out.2
    have hlim : AffLim ⟨ws[1], fb, p3, p4, p5⟩ maxLen := ⟨hsz _ (List.getElem_mem _), by rw [← hp3]; exact unB_le (hsz _ (List.getElem_mem _)), by rw [← hp4]; exact unB_le (hsz _ (List.getElem_mem _)), by rw [← hp5]; exact unB_le (hsz _ (List.getElem_mem _))⟩
    have HLim := Lib.hid hlim
    obtain ⟨iA, hi, hzA0, hzA1, hzA2⟩ := info_parts infoAffS
    have hb0b : w0.heap.size ≤ b0 ∧ b0 < w.heap.size := HW.out.block (by omega) b0 o0 rfl
    have hb0lt : b0 < w.heap.size := hb0b.2
    have hB0 := hBw0
    have hb0n : some b0 ≠ (Value.slice a1 g.affixes.length c1).ownBlock := fun e => by have := (World.ownsRow.lt HG0.out.aff b0 e.symm).2; omega
    have hb0gb : b0 ≠ gb := by have := HG0.out.gbB; omega
    have hBw : B ≤ w.heap.size := Nat.le_trans hBw0 HBw.out.size
    have hBa : B ≤ (w.alloc (.cells #[.string ws[1], .bool fb, .string p3, .string p4, .string p5] 51)).drew.heap.size := Nat.le_trans hBw (one_belowS w _).size
    have hw0a := cell_alloc (.cells #[.string ws[1], .bool fb, .string p3, .string p4, .string p5] 51) hw0
    clear hp3 hp4 hp5 hsz hlim
    go_enter Tryz.func33, Tryz.ntmps33
    go_upto_region 2 with fail
    have hlim := HLim.out
    go_cut [0, 1] (fun s0 s1 wx => s0 = .pointer (some ⟨gb, 0, none⟩) ∧ s1 = .slice (some ⟨b0, o0, none⟩) 6 c ∧ ∃ u1 u2, GB wx B gb u1 u2 ⟨g.affixes ++ [⟨ws[1], fb, p3, p4, p5⟩], g.stems⟩ q us ∧ KeepG B gb w wx ∧ wx.cell? ⟨b0, o0 + 1, none⟩ = some (.string ws[1]) ∧ wx.cell? ⟨b0, o0 + 2, none⟩ = some (.string ws[2]) ∧ wx.cell? ⟨b0, o0 + 3, none⟩ = some (.string ws[3]) ∧ wx.cell? ⟨b0, o0 + 4, none⟩ = some (.string ws[4]) ∧ wx.cell? ⟨b0, o0 + 5, none⟩ = some (.string ws[5]))
    case first =>
      refine wp_region_held_drew (S := (fun w' => w'.cell? ⟨b0, o0 + 1, none⟩ = some (.string ws[1]) ∧ w'.cell? ⟨b0, o0 + 2, none⟩ = some (.string ws[2]) ∧ w'.cell? ⟨b0, o0 + 3, none⟩ = some (.string ws[3]) ∧ w'.cell? ⟨b0, o0 + 4, none⟩ = some (.string ws[4]) ∧ w'.cell? ⟨b0, o0 + 5, none⟩ = some (.string ws[5]))) (by kernel_rfl) ?_ (fun hHeld => ?_)
      · exact ⟨hc1, hc2, hc3, hc4, hc5⟩
      refine wpAnyH_take (i := 0) (v := ?v1) rfl (by kernel_rfl) (by kernel_rfl) (by kernel_rfl) (fun _ _ _ h => h) (Or.inl ⟨by kernel_rfl, ?hy1⟩) (by assumption) ?_
      case hy1 => (intro w9 hS9; (try dsimp only at hS9); go_simp; (try with_reducible rfl))
      try simp only [Act.put, List.getElem_toArray, List.getElem_cons_succ, List.getElem_cons_zero, List.setIfInBounds_toArray, List.set_cons_zero, List.set_cons_succ]
      refine wpAnyH_take (i := 1) (v := ?v2) rfl (by kernel_rfl) (by kernel_rfl) (by kernel_rfl) (fun _ _ _ h => h) (Or.inl ⟨by kernel_rfl, ?hy2⟩) (by assumption) ?_
      case hy2 => (intro w9 hS9; (try dsimp only at hS9); go_simp; (try with_reducible rfl))
      try simp only [Act.put, List.getElem_toArray, List.getElem_cons_succ, List.getElem_cons_zero, List.setIfInBounds_toArray, List.set_cons_zero, List.set_cons_succ]
      refine wpAnyH_take (i := 2) (v := ?v3) rfl (by kernel_rfl) (by kernel_rfl) (by kernel_rfl) (fun _ _ _ h => h) (Or.inl ⟨by kernel_rfl, ?hy3⟩) (by assumption) ?_
      case hy3 => (intro w9 hS9; (try dsimp only at hS9); go_simp; (try with_reducible rfl))
      try simp only [Act.put, List.getElem_toArray, List.getElem_cons_succ, List.getElem_cons_zero, List.setIfInBounds_toArray, List.set_cons_zero, List.set_cons_succ]
      refine wpAnyH_take (i := 3) (v := ?v4) rfl (by kernel_rfl) (by kernel_rfl) (by kernel_rfl) (fun _ _ _ h => h) (Or.inl ⟨by kernel_rfl, ?hy4⟩) (by assumption) ?_
      case hy4 => (intro w9 hS9; (try dsimp only at hS9); go_simp; (try with_reducible rfl))
      try simp only [Act.put, List.getElem_toArray, List.getElem_cons_succ, List.getElem_cons_zero, List.setIfInBounds_toArray, List.set_cons_zero, List.set_cons_succ]
      refine wpAnyH_take (i := 5) (v := ?v5) rfl (by kernel_rfl) (by kernel_rfl) (by kernel_rfl) (fun _ _ _ h => h) (Or.inl ⟨by kernel_rfl, ?hy5⟩) (by assumption) ?_
      case hy5 => (intro w9 hS9; (try dsimp only at hS9); go_simp; (try with_reducible rfl))
      try simp only [Act.put, List.getElem_toArray, List.getElem_cons_succ, List.getElem_cons_zero, List.setIfInBounds_toArray, List.set_cons_zero, List.set_cons_succ]
      refine wpAnyH_take (i := 6) (v := ?v6) rfl (by kernel_rfl) (by kernel_rfl) (by kernel_rfl) (fun _ _ _ h => h) (Or.inl ⟨by kernel_rfl, ?hy6⟩) (by assumption) ?_
      case hy6 => (intro w9 hS9; (try dsimp only at hS9); go_simp; (try with_reducible rfl))
      try simp only [Act.put, List.getElem_toArray, List.getElem_cons_succ, List.getElem_cons_zero, List.setIfInBounds_toArray, List.set_cons_zero, List.set_cons_succ]
      refine wpAnyH_take (i := 7) (v := ?v7) rfl (by kernel_rfl) (by kernel_rfl) (by kernel_rfl) (fun _ _ _ h => h) (Or.inl ⟨by kernel_rfl, ?hy7⟩) (by assumption) ?_
      case hy7 => (intro w9 hS9; (try dsimp only at hS9); go_simp; (try with_reducible rfl))
      try simp only [Act.put, List.getElem_toArray, List.getElem_cons_succ, List.getElem_cons_zero, List.setIfInBounds_toArray, List.set_cons_zero, List.set_cons_succ]
      refine wpAnyH_take (i := 8) (v := ?v8) rfl (by kernel_rfl) (by kernel_rfl) (by kernel_rfl) (fun _ _ _ h => h) (Or.inl ⟨by kernel_rfl, ?hy8⟩) (by assumption) ?_
      case hy8 => (intro w9 hS9; (try dsimp only at hS9); go_simp; (try with_reducible rfl))
      try simp only [Act.put, List.getElem_toArray, List.getElem_cons_succ, List.getElem_cons_zero, List.setIfInBounds_toArray, List.set_cons_zero, List.set_cons_succ]
      refine wpAnyH_take (i := 9) (v := ?v9) rfl (by kernel_rfl) (by kernel_rfl) (by kernel_rfl) (fun _ _ _ h => h) (Or.inl ⟨by kernel_rfl, ?hy9⟩) (by assumption) ?_
      case hy9 => (intro w9 hS9; (try dsimp only at hS9); go_simp; (try with_reducible rfl))
      try simp only [Act.put, List.getElem_toArray, List.getElem_cons_succ, List.getElem_cons_zero, List.setIfInBounds_toArray, List.set_cons_zero, List.set_cons_succ]
      refine wpAnyH_take (i := 10) (v := ?v10) rfl (by kernel_rfl) (by kernel_rfl) (by kernel_rfl) (fun _ _ _ h => h) (Or.inl ⟨by kernel_rfl, ?hy10⟩) (by assumption) ?_
      case hy10 => (intro w9 hS9; (try dsimp only at hS9); go_simp; (try with_reducible rfl))
      try simp only [Act.put, List.getElem_toArray, List.getElem_cons_succ, List.getElem_cons_zero, List.setIfInBounds_toArray, List.set_cons_zero, List.set_cons_succ]
      refine wpAnyH_take (i := 11) (v := ?v11) rfl (by kernel_rfl) (by kernel_rfl) (by kernel_rfl) (fun _ _ _ h => h) (Or.inl ⟨by kernel_rfl, ?hy11⟩) (by assumption) ?_
      case hy11 => (intro w9 hS9; (try dsimp only at hS9); go_simp; (try with_reducible rfl))
      try simp only [Act.put, List.getElem_toArray, List.getElem_cons_succ, List.getElem_cons_zero, List.setIfInBounds_toArray, List.set_cons_zero, List.set_cons_succ]
      refine wpAnyH_take (i := 12) (v := ?v12) rfl (by kernel_rfl) (by kernel_rfl) (by kernel_rfl) (fun _ _ _ h => h) (Or.inl ⟨by kernel_rfl, ?hy12⟩) (by assumption) ?_
      case hy12 => (intro w9 hS9; (try dsimp only at hS9); go_simp; (try with_reducible rfl))
      try simp only [Act.put, List.getElem_toArray, List.getElem_cons_succ, List.getElem_cons_zero, List.setIfInBounds_toArray, List.set_cons_zero, List.set_cons_succ]
      refine wpAnyH_take (i := 13) (v := ?v13) rfl (by kernel_rfl) (by kernel_rfl) (by kernel_rfl) (fun _ _ _ h => h) (Or.inl ⟨by kernel_rfl, ?hy13⟩) (by assumption) ?_
      case hy13 => (intro w9 hS9; (try dsimp only at hS9); go_simp; (try with_reducible rfl))
      try simp only [Act.put, List.getElem_toArray, List.getElem_cons_succ, List.getElem_cons_zero, List.setIfInBounds_toArray, List.set_cons_zero, List.set_cons_succ]
      refine wpAnyH_take (i := 14) (v := ?v14) rfl (by kernel_rfl) (by kernel_rfl) (by kernel_rfl) (fun _ _ _ h => h) (Or.inl ⟨by kernel_rfl, ?hy14⟩) (by assumption) ?_
      case hy14 => (intro w9 hS9; (try dsimp only at hS9); go_simp; (try with_reducible rfl))
      try simp only [Act.put, List.getElem_toArray, List.getElem_cons_succ, List.getElem_cons_zero, List.setIfInBounds_toArray, List.set_cons_zero, List.set_cons_succ]
      refine wpAnyH_take (i := 16) (v := ?v15) rfl (by kernel_rfl) (by kernel_rfl) (by kernel_rfl) (fun _ _ _ h => h) (Or.inl ⟨by kernel_rfl, ?hy15⟩) (by assumption) ?_
      case hy15 => (intro w9 hS9; (try dsimp only at hS9); go_simp; (try with_reducible rfl))
      try simp only [Act.put, List.getElem_toArray, List.getElem_cons_succ, List.getElem_cons_zero, List.setIfInBounds_toArray, List.set_cons_zero, List.set_cons_succ]
      refine wpAnyH_take (i := 17) (v := ?v16) rfl (by kernel_rfl) (by kernel_rfl) (by kernel_rfl) (fun _ _ _ h => h) (Or.inl ⟨by kernel_rfl, ?hy16⟩) (by assumption) ?_
      case hy16 => (intro w9 hS9; (try dsimp only at hS9); go_simp; (try with_reducible rfl))
      try simp only [Act.put, List.getElem_toArray, List.getElem_cons_succ, List.getElem_cons_zero, List.setIfInBounds_toArray, List.set_cons_zero, List.set_cons_succ]
      refine wpAnyH_take (i := 18) (v := ?v17) rfl (by kernel_rfl) (by kernel_rfl) (by kernel_rfl) (fun _ _ _ h => h) (Or.inl ⟨by kernel_rfl, ?hy17⟩) (by assumption) ?_
      case hy17 => (intro w9 hS9; (try dsimp only at hS9); go_simp; (try with_reducible rfl))
      try simp only [Act.put, List.getElem_toArray, List.getElem_cons_succ, List.getElem_cons_zero, List.setIfInBounds_toArray, List.set_cons_zero, List.set_cons_succ]
      refine wpAnyH_take (i := 20) (v := ?v18) rfl (by kernel_rfl) (by kernel_rfl) (by kernel_rfl) (fun _ _ _ h => h) (Or.inl ⟨by kernel_rfl, ?hy18⟩) (by assumption) ?_
      case hy18 => (intro w9 hS9; (try dsimp only at hS9); go_simp; (try with_reducible rfl))
      try simp only [Act.put, List.getElem_toArray, List.getElem_cons_succ, List.getElem_cons_zero, List.setIfInBounds_toArray, List.set_cons_zero, List.set_cons_succ]
      refine wpAnyH_take (i := 21) (v := ?v19) rfl (by kernel_rfl) (by kernel_rfl) (by kernel_rfl) (fun _ _ _ h => h) (Or.inl ⟨by kernel_rfl, ?hy19⟩) (by assumption) ?_
      case hy19 => (intro w9 hS9; (try dsimp only at hS9); go_simp; (try with_reducible rfl))
      try simp only [Act.put, List.getElem_toArray, List.getElem_cons_succ, List.getElem_cons_zero, List.setIfInBounds_toArray, List.set_cons_zero, List.set_cons_succ]
      refine wpAnyH_take (i := 22) (v := ?v20) rfl (by kernel_rfl) (by kernel_rfl) (by kernel_rfl) (fun _ _ _ h => h) (Or.inl ⟨by kernel_rfl, ?hy20⟩) (by assumption) ?_
      case hy20 => (intro w9 hS9; (try dsimp only at hS9); go_simp; (try with_reducible rfl))
      try simp only [Act.put, List.getElem_toArray, List.getElem_cons_succ, List.getElem_cons_zero, List.setIfInBounds_toArray, List.set_cons_zero, List.set_cons_succ]
      refine wpAnyH_ready (rs := [4, 15]) (by kernel_rfl) (by simp) ?_
      refine AllReadyH.cons rfl (fun K9 hK9 => ?_) (AllReadyH.cons rfl (fun K9 hK9 => ?_) (AllReadyH.nil))
      · rw [if_pos (by rfl)]
        go_simp
        refine hK9.out _ _ (by assumption) (fun hHeld2 => ?_)
        clear hK9 K9
        try simp only [Act.put, List.getElem_toArray, List.getElem_cons_succ, List.getElem_cons_zero, List.setIfInBounds_toArray, List.set_cons_zero, List.set_cons_succ]
        refine wpAnyH_ready (rs := [15]) (by kernel_rfl) (by simp) ?_
        refine AllReadyH.cons rfl (fun K9 hK9 => ?_) AllReadyH.nil
        rw [if_pos (by rfl)]
        go_wp2_with (go_at_call 58; refine (l04Unpart_is HP.out.1 _).mono ?_; rintro e w3 ⟨rfl, rfl⟩)
        refine hK9.out _ _ (by assumption) (fun hHeld3 => ?_)
        clear hK9 K9
        try simp only [Act.put, List.getElem_toArray, List.getElem_cons_succ, List.getElem_cons_zero, List.setIfInBounds_toArray, List.set_cons_zero, List.set_cons_succ]
        refine wpAnyH_ready (rs := [19]) (by kernel_rfl) (by simp) ?_
        refine AllReadyH.cons rfl (fun K9 hK9 => ?_) AllReadyH.nil
        rw [if_pos (by rfl)]
        go_wp2_with (go_at_call 58; refine (l04Unpart_is HP.out.2.1 _).mono ?_; rintro e w4 ⟨rfl, rfl⟩)
        refine hK9.out _ _ (by assumption) (fun hHeld4 => ?_)
        clear hK9 K9
        try simp only [Act.put, List.getElem_toArray, List.getElem_cons_succ, List.getElem_cons_zero, List.setIfInBounds_toArray, List.set_cons_zero, List.set_cons_succ]
        refine wpAnyH_ready (rs := [23]) (by kernel_rfl) (by simp) ?_
        refine AllReadyH.cons rfl (fun K9 hK9 => ?_) AllReadyH.nil
        rw [if_pos (by rfl)]
        go_wp2_with (go_at_call 58; refine (l04Unpart_is HP.out.2.2 _).mono ?_; rintro e w5 ⟨rfl, rfl⟩)
        refine hK9.out _ _ (by assumption) (fun hHeld5 => ?_)
        clear hK9 K9
        try simp only [Act.put, List.getElem_toArray, List.getElem_cons_succ, List.getElem_cons_zero, List.setIfInBounds_toArray, List.set_cons_zero, List.set_cons_succ]
        refine wpAnyH_take (i := 24) (v := ?v21) rfl (by kernel_rfl) (by kernel_rfl) (by kernel_rfl) (fun _ _ _ h => h) (Or.inl ⟨by kernel_rfl, ?hy21⟩) (by assumption) ?_
        case hy21 => (intro w9 hS9; (try dsimp only at hS9); go_simp; (try with_reducible rfl))
        try simp only [Act.put, List.getElem_toArray, List.getElem_cons_succ, List.getElem_cons_zero, List.setIfInBounds_toArray, List.set_cons_zero, List.set_cons_succ]
        refine wpAnyH_ready (rs := [25]) (by kernel_rfl) (by simp) ?_
        refine AllReadyH.cons rfl (fun K9 hK9 => ?_) AllReadyH.nil
        rw [if_pos (by rfl)]
        go_simp
        refine hK9.out _ _ (⟨cell_alloc _ hc1, cell_alloc _ hc2, cell_alloc _ hc3, cell_alloc _ hc4, cell_alloc _ hc5⟩) (fun hHeld6 => ?_)
        clear hK9 K9
        try simp only [Act.put, List.getElem_toArray, List.getElem_cons_succ, List.getElem_cons_zero, List.setIfInBounds_toArray, List.set_cons_zero, List.set_cons_succ]
        refine wpAnyH_ready (rs := [26]) (by kernel_rfl) (by simp) ?_
        refine AllReadyH.cons rfl (fun K9 hK9 => ?_) AllReadyH.nil
        refine step_append_lies _ ?_ (.tmp 27) (.tmp 48) 24 ?_ B 51 iA (.agg #[.string ⟨#[]⟩, .bool false, .string ⟨#[]⟩, .string ⟨#[]⟩, .string ⟨#[]⟩]) 5 72 Tryz.underlying24 hi hzA0 hzA1 hzA2 rfl (by decide) (.slice a1 g.affixes.length c1) g.affixes.length (g.affixes.flatMap affL) ?_ (own_below HG.out.aff (one_belowS w _)) ⟨w.heap.size, 0, none⟩ 1 1 (affL ⟨ws[1], fb, p3, p4, p5⟩) ?_ rfl (new_cells w _ _ _ rfl) affL_one (by decide) (by unfold maxLen; omega) (by omega) hBa _ rfl ?_; rfl; rfl; rfl; rfl
        intro gn cap w6 hown6 hgr6 hloc6 hlt6
        obtain ⟨HGn, HKn, hcf, hgn⟩ := HG.out.affix (one_belowS w _) hBw ⟨ws[1], fb, p3, p4, p5⟩ hlim gn cap hown6 hgr6 (hloc6)
        have hfr : ∀ k, k < w.heap.size → some k ≠ (Value.slice a1 g.affixes.length c1).ownBlock → w6.heap[k]? = w.heap[k]? := fun k hk hne => (hgr6.block k (Nat.lt_of_lt_of_le hk (one_belowS w _).size) hne).trans ((one_belowS w _).block k hk)
        refine hK9.out _ _ (⟨cell_of_sameR (hfr b0 hb0lt hb0n) hc1, cell_of_sameR (hfr b0 hb0lt hb0n) hc2, cell_of_sameR (hfr b0 hb0lt hb0n) hc3, cell_of_sameR (hfr b0 hb0lt hb0n) hc4, cell_of_sameR (hfr b0 hb0lt hb0n) hc5⟩) (fun hHeld7 => ?_)
        clear hK9 K9
        try simp only [Act.put, List.getElem_toArray, List.getElem_cons_succ, List.getElem_cons_zero, List.setIfInBounds_toArray, List.set_cons_zero, List.set_cons_succ]
        refine wpAnyH_take (i := 27) (v := ?v22) rfl (by kernel_rfl) (by kernel_rfl) (by kernel_rfl) (fun _ _ _ h => h) (Or.inl ⟨by kernel_rfl, ?hy22⟩) (by assumption) ?_
        case hy22 => (intro w9 hS9; (try dsimp only at hS9); go_simp; (try with_reducible rfl))
        try simp only [Act.put, List.getElem_toArray, List.getElem_cons_succ, List.getElem_cons_zero, List.setIfInBounds_toArray, List.set_cons_zero, List.set_cons_succ]
        refine wpAnyH_take (i := 28) (v := ?v23) rfl (by kernel_rfl) (by kernel_rfl) (by kernel_rfl) (fun _ _ _ h => h) (Or.inl ⟨by kernel_rfl, ?hy23⟩) (by assumption) ?_
        case hy23 => (intro w9 hS9; (try dsimp only at hS9); go_simp; (try with_reducible rfl))
        try simp only [Act.put, List.getElem_toArray, List.getElem_cons_succ, List.getElem_cons_zero, List.setIfInBounds_toArray, List.set_cons_zero, List.set_cons_succ]
        refine wpAnyH_ready (rs := [29]) (by kernel_rfl) (by simp) ?_
        refine AllReadyH.cons rfl (fun K9 hK9 => ?_) AllReadyH.nil
        rw [if_pos (by rfl)]
        go_simp
        refine hK9.out _ _ (⟨(cell_setR (Ne.symm hb0gb) (cell_of_sameR (hfr b0 hb0lt hb0n) hc1)), (cell_setR (Ne.symm hb0gb) (cell_of_sameR (hfr b0 hb0lt hb0n) hc2)), (cell_setR (Ne.symm hb0gb) (cell_of_sameR (hfr b0 hb0lt hb0n) hc3)), (cell_setR (Ne.symm hb0gb) (cell_of_sameR (hfr b0 hb0lt hb0n) hc4)), (cell_setR (Ne.symm hb0gb) (cell_of_sameR (hfr b0 hb0lt hb0n) hc5))⟩) (fun hHeld8 => ?_)
        clear hK9 K9
        try simp only [Act.put, List.getElem_toArray, List.getElem_cons_succ, List.getElem_cons_zero, List.setIfInBounds_toArray, List.set_cons_zero, List.set_cons_succ]
        refine wpAnyH_done (by kernel_rfl) ?_ _
        go_wp2_with fail
        go_meet
        exact ⟨rfl, rfl, _, _, HGn, HKn, hHeld8⟩
      · rw [if_pos (by rfl)]
        go_wp2_with (go_at_call 58; refine (l04Unpart_is HP.out.1 _).mono ?_; rintro e w3 ⟨rfl, rfl⟩)
        refine hK9.out _ _ (by assumption) (fun hHeld2 => ?_)
        clear hK9 K9
        try simp only [Act.put, List.getElem_toArray, List.getElem_cons_succ, List.getElem_cons_zero, List.setIfInBounds_toArray, List.set_cons_zero, List.set_cons_succ]
        refine wpAnyH_ready (rs := [4, 19]) (by kernel_rfl) (by simp) ?_
        refine AllReadyH.cons rfl (fun K9 hK9 => ?_) (AllReadyH.cons rfl (fun K9 hK9 => ?_) (AllReadyH.nil))
        · rw [if_pos (by rfl)]
          go_simp
          refine hK9.out _ _ (by assumption) (fun hHeld3 => ?_)
          clear hK9 K9
          try simp only [Act.put, List.getElem_toArray, List.getElem_cons_succ, List.getElem_cons_zero, List.setIfInBounds_toArray, List.set_cons_zero, List.set_cons_succ]
          refine wpAnyH_ready (rs := [19]) (by kernel_rfl) (by simp) ?_
          refine AllReadyH.cons rfl (fun K9 hK9 => ?_) AllReadyH.nil
          rw [if_pos (by rfl)]
          go_wp2_with (go_at_call 58; refine (l04Unpart_is HP.out.2.1 _).mono ?_; rintro e w4 ⟨rfl, rfl⟩)
          refine hK9.out _ _ (by assumption) (fun hHeld4 => ?_)
          clear hK9 K9
          try simp only [Act.put, List.getElem_toArray, List.getElem_cons_succ, List.getElem_cons_zero, List.setIfInBounds_toArray, List.set_cons_zero, List.set_cons_succ]
          refine wpAnyH_ready (rs := [23]) (by kernel_rfl) (by simp) ?_
          refine AllReadyH.cons rfl (fun K9 hK9 => ?_) AllReadyH.nil
          rw [if_pos (by rfl)]
          go_wp2_with (go_at_call 58; refine (l04Unpart_is HP.out.2.2 _).mono ?_; rintro e w5 ⟨rfl, rfl⟩)
          refine hK9.out _ _ (by assumption) (fun hHeld5 => ?_)
          clear hK9 K9
          try simp only [Act.put, List.getElem_toArray, List.getElem_cons_succ, List.getElem_cons_zero, List.setIfInBounds_toArray, List.set_cons_zero, List.set_cons_succ]
          refine wpAnyH_take (i := 24) (v := ?v24) rfl (by kernel_rfl) (by kernel_rfl) (by kernel_rfl) (fun _ _ _ h => h) (Or.inl ⟨by kernel_rfl, ?hy24⟩) (by assumption) ?_
          case hy24 => (intro w9 hS9; (try dsimp only at hS9); go_simp; (try with_reducible rfl))
          try simp only [Act.put, List.getElem_toArray, List.getElem_cons_succ, List.getElem_cons_zero, List.setIfInBounds_toArray, List.set_cons_zero, List.set_cons_succ]
          refine wpAnyH_ready (rs := [25]) (by kernel_rfl) (by simp) ?_
          refine AllReadyH.cons rfl (fun K9 hK9 => ?_) AllReadyH.nil
          rw [if_pos (by rfl)]
          go_simp
          refine hK9.out _ _ (⟨cell_alloc _ hc1, cell_alloc _ hc2, cell_alloc _ hc3, cell_alloc _ hc4, cell_alloc _ hc5⟩) (fun hHeld6 => ?_)
          clear hK9 K9
          try simp only [Act.put, List.getElem_toArray, List.getElem_cons_succ, List.getElem_cons_zero, List.setIfInBounds_toArray, List.set_cons_zero, List.set_cons_succ]
          refine wpAnyH_ready (rs := [26]) (by kernel_rfl) (by simp) ?_
          refine AllReadyH.cons rfl (fun K9 hK9 => ?_) AllReadyH.nil
          refine step_append_lies _ ?_ (.tmp 27) (.tmp 48) 24 ?_ B 51 iA (.agg #[.string ⟨#[]⟩, .bool false, .string ⟨#[]⟩, .string ⟨#[]⟩, .string ⟨#[]⟩]) 5 72 Tryz.underlying24 hi hzA0 hzA1 hzA2 rfl (by decide) (.slice a1 g.affixes.length c1) g.affixes.length (g.affixes.flatMap affL) ?_ (own_below HG.out.aff (one_belowS w _)) ⟨w.heap.size, 0, none⟩ 1 1 (affL ⟨ws[1], fb, p3, p4, p5⟩) ?_ rfl (new_cells w _ _ _ rfl) affL_one (by decide) (by unfold maxLen; omega) (by omega) hBa _ rfl ?_; rfl; rfl; rfl; rfl
          intro gn cap w6 hown6 hgr6 hloc6 hlt6
          obtain ⟨HGn, HKn, hcf, hgn⟩ := HG.out.affix (one_belowS w _) hBw ⟨ws[1], fb, p3, p4, p5⟩ hlim gn cap hown6 hgr6 (hloc6)
          have hfr : ∀ k, k < w.heap.size → some k ≠ (Value.slice a1 g.affixes.length c1).ownBlock → w6.heap[k]? = w.heap[k]? := fun k hk hne => (hgr6.block k (Nat.lt_of_lt_of_le hk (one_belowS w _).size) hne).trans ((one_belowS w _).block k hk)
          refine hK9.out _ _ (⟨cell_of_sameR (hfr b0 hb0lt hb0n) hc1, cell_of_sameR (hfr b0 hb0lt hb0n) hc2, cell_of_sameR (hfr b0 hb0lt hb0n) hc3, cell_of_sameR (hfr b0 hb0lt hb0n) hc4, cell_of_sameR (hfr b0 hb0lt hb0n) hc5⟩) (fun hHeld7 => ?_)
          clear hK9 K9
          try simp only [Act.put, List.getElem_toArray, List.getElem_cons_succ, List.getElem_cons_zero, List.setIfInBounds_toArray, List.set_cons_zero, List.set_cons_succ]
          refine wpAnyH_take (i := 27) (v := ?v25) rfl (by kernel_rfl) (by kernel_rfl) (by kernel_rfl) (fun _ _ _ h => h) (Or.inl ⟨by kernel_rfl, ?hy25⟩) (by assumption) ?_
          case hy25 => (intro w9 hS9; (try dsimp only at hS9); go_simp; (try with_reducible rfl))
          try simp only [Act.put, List.getElem_toArray, List.getElem_cons_succ, List.getElem_cons_zero, List.setIfInBounds_toArray, List.set_cons_zero, List.set_cons_succ]
          refine wpAnyH_take (i := 28) (v := ?v26) rfl (by kernel_rfl) (by kernel_rfl) (by kernel_rfl) (fun _ _ _ h => h) (Or.inl ⟨by kernel_rfl, ?hy26⟩) (by assumption) ?_
          case hy26 => (intro w9 hS9; (try dsimp only at hS9); go_simp; (try with_reducible rfl))
          try simp only [Act.put, List.getElem_toArray, List.getElem_cons_succ, List.getElem_cons_zero, List.setIfInBounds_toArray, List.set_cons_zero, List.set_cons_succ]
          refine wpAnyH_ready (rs := [29]) (by kernel_rfl) (by simp) ?_
          refine AllReadyH.cons rfl (fun K9 hK9 => ?_) AllReadyH.nil
          rw [if_pos (by rfl)]
          go_simp
          refine hK9.out _ _ (⟨(cell_setR (Ne.symm hb0gb) (cell_of_sameR (hfr b0 hb0lt hb0n) hc1)), (cell_setR (Ne.symm hb0gb) (cell_of_sameR (hfr b0 hb0lt hb0n) hc2)), (cell_setR (Ne.symm hb0gb) (cell_of_sameR (hfr b0 hb0lt hb0n) hc3)), (cell_setR (Ne.symm hb0gb) (cell_of_sameR (hfr b0 hb0lt hb0n) hc4)), (cell_setR (Ne.symm hb0gb) (cell_of_sameR (hfr b0 hb0lt hb0n) hc5))⟩) (fun hHeld8 => ?_)
          clear hK9 K9
          try simp only [Act.put, List.getElem_toArray, List.getElem_cons_succ, List.getElem_cons_zero, List.setIfInBounds_toArray, List.set_cons_zero, List.set_cons_succ]
          refine wpAnyH_done (by kernel_rfl) ?_ _
          go_wp2_with fail
          go_meet
          exact ⟨rfl, rfl, _, _, HGn, HKn, hHeld8⟩
        · rw [if_pos (by rfl)]
          go_wp2_with (go_at_call 58; refine (l04Unpart_is HP.out.2.1 _).mono ?_; rintro e w4 ⟨rfl, rfl⟩)
          refine hK9.out _ _ (by assumption) (fun hHeld3 => ?_)
          clear hK9 K9
          try simp only [Act.put, List.getElem_toArray, List.getElem_cons_succ, List.getElem_cons_zero, List.setIfInBounds_toArray, List.set_cons_zero, List.set_cons_succ]
          refine wpAnyH_ready (rs := [4, 23]) (by kernel_rfl) (by simp) ?_
          refine AllReadyH.cons rfl (fun K9 hK9 => ?_) (AllReadyH.cons rfl (fun K9 hK9 => ?_) (AllReadyH.nil))
          · rw [if_pos (by rfl)]
            go_simp
            refine hK9.out _ _ (by assumption) (fun hHeld4 => ?_)
            clear hK9 K9
            try simp only [Act.put, List.getElem_toArray, List.getElem_cons_succ, List.getElem_cons_zero, List.setIfInBounds_toArray, List.set_cons_zero, List.set_cons_succ]
            refine wpAnyH_ready (rs := [23]) (by kernel_rfl) (by simp) ?_
            refine AllReadyH.cons rfl (fun K9 hK9 => ?_) AllReadyH.nil
            rw [if_pos (by rfl)]
            go_wp2_with (go_at_call 58; refine (l04Unpart_is HP.out.2.2 _).mono ?_; rintro e w5 ⟨rfl, rfl⟩)
            refine hK9.out _ _ (by assumption) (fun hHeld5 => ?_)
            clear hK9 K9
            try simp only [Act.put, List.getElem_toArray, List.getElem_cons_succ, List.getElem_cons_zero, List.setIfInBounds_toArray, List.set_cons_zero, List.set_cons_succ]
            refine wpAnyH_take (i := 24) (v := ?v27) rfl (by kernel_rfl) (by kernel_rfl) (by kernel_rfl) (fun _ _ _ h => h) (Or.inl ⟨by kernel_rfl, ?hy27⟩) (by assumption) ?_
            case hy27 => (intro w9 hS9; (try dsimp only at hS9); go_simp; (try with_reducible rfl))
            try simp only [Act.put, List.getElem_toArray, List.getElem_cons_succ, List.getElem_cons_zero, List.setIfInBounds_toArray, List.set_cons_zero, List.set_cons_succ]
            refine wpAnyH_ready (rs := [25]) (by kernel_rfl) (by simp) ?_
            refine AllReadyH.cons rfl (fun K9 hK9 => ?_) AllReadyH.nil
            rw [if_pos (by rfl)]
            go_simp
            refine hK9.out _ _ (⟨cell_alloc _ hc1, cell_alloc _ hc2, cell_alloc _ hc3, cell_alloc _ hc4, cell_alloc _ hc5⟩) (fun hHeld6 => ?_)
            clear hK9 K9
            try simp only [Act.put, List.getElem_toArray, List.getElem_cons_succ, List.getElem_cons_zero, List.setIfInBounds_toArray, List.set_cons_zero, List.set_cons_succ]
            refine wpAnyH_ready (rs := [26]) (by kernel_rfl) (by simp) ?_
            refine AllReadyH.cons rfl (fun K9 hK9 => ?_) AllReadyH.nil
            refine step_append_lies _ ?_ (.tmp 27) (.tmp 48) 24 ?_ B 51 iA (.agg #[.string ⟨#[]⟩, .bool false, .string ⟨#[]⟩, .string ⟨#[]⟩, .string ⟨#[]⟩]) 5 72 Tryz.underlying24 hi hzA0 hzA1 hzA2 rfl (by decide) (.slice a1 g.affixes.length c1) g.affixes.length (g.affixes.flatMap affL) ?_ (own_below HG.out.aff (one_belowS w _)) ⟨w.heap.size, 0, none⟩ 1 1 (affL ⟨ws[1], fb, p3, p4, p5⟩) ?_ rfl (new_cells w _ _ _ rfl) affL_one (by decide) (by unfold maxLen; omega) (by omega) hBa _ rfl ?_; rfl; rfl; rfl; rfl
            intro gn cap w6 hown6 hgr6 hloc6 hlt6
            obtain ⟨HGn, HKn, hcf, hgn⟩ := HG.out.affix (one_belowS w _) hBw ⟨ws[1], fb, p3, p4, p5⟩ hlim gn cap hown6 hgr6 (hloc6)
            have hfr : ∀ k, k < w.heap.size → some k ≠ (Value.slice a1 g.affixes.length c1).ownBlock → w6.heap[k]? = w.heap[k]? := fun k hk hne => (hgr6.block k (Nat.lt_of_lt_of_le hk (one_belowS w _).size) hne).trans ((one_belowS w _).block k hk)
            refine hK9.out _ _ (⟨cell_of_sameR (hfr b0 hb0lt hb0n) hc1, cell_of_sameR (hfr b0 hb0lt hb0n) hc2, cell_of_sameR (hfr b0 hb0lt hb0n) hc3, cell_of_sameR (hfr b0 hb0lt hb0n) hc4, cell_of_sameR (hfr b0 hb0lt hb0n) hc5⟩) (fun hHeld7 => ?_)
            clear hK9 K9
            try simp only [Act.put, List.getElem_toArray, List.getElem_cons_succ, List.getElem_cons_zero, List.setIfInBounds_toArray, List.set_cons_zero, List.set_cons_succ]
            refine wpAnyH_take (i := 27) (v := ?v28) rfl (by kernel_rfl) (by kernel_rfl) (by kernel_rfl) (fun _ _ _ h => h) (Or.inl ⟨by kernel_rfl, ?hy28⟩) (by assumption) ?_
            case hy28 => (intro w9 hS9; (try dsimp only at hS9); go_simp; (try with_reducible rfl))
            try simp only [Act.put, List.getElem_toArray, List.getElem_cons_succ, List.getElem_cons_zero, List.setIfInBounds_toArray, List.set_cons_zero, List.set_cons_succ]
            refine wpAnyH_take (i := 28) (v := ?v29) rfl (by kernel_rfl) (by kernel_rfl) (by kernel_rfl) (fun _ _ _ h => h) (Or.inl ⟨by kernel_rfl, ?hy29⟩) (by assumption) ?_
            case hy29 => (intro w9 hS9; (try dsimp only at hS9); go_simp; (try with_reducible rfl))
            try simp only [Act.put, List.getElem_toArray, List.getElem_cons_succ, List.getElem_cons_zero, List.setIfInBounds_toArray, List.set_cons_zero, List.set_cons_succ]
            refine wpAnyH_ready (rs := [29]) (by kernel_rfl) (by simp) ?_
            refine AllReadyH.cons rfl (fun K9 hK9 => ?_) AllReadyH.nil
            rw [if_pos (by rfl)]
            go_simp
            refine hK9.out _ _ (⟨(cell_setR (Ne.symm hb0gb) (cell_of_sameR (hfr b0 hb0lt hb0n) hc1)), (cell_setR (Ne.symm hb0gb) (cell_of_sameR (hfr b0 hb0lt hb0n) hc2)), (cell_setR (Ne.symm hb0gb) (cell_of_sameR (hfr b0 hb0lt hb0n) hc3)), (cell_setR (Ne.symm hb0gb) (cell_of_sameR (hfr b0 hb0lt hb0n) hc4)), (cell_setR (Ne.symm hb0gb) (cell_of_sameR (hfr b0 hb0lt hb0n) hc5))⟩) (fun hHeld8 => ?_)
            clear hK9 K9
            try simp only [Act.put, List.getElem_toArray, List.getElem_cons_succ, List.getElem_cons_zero, List.setIfInBounds_toArray, List.set_cons_zero, List.set_cons_succ]
            refine wpAnyH_done (by kernel_rfl) ?_ _
            go_wp2_with fail
            go_meet
            exact ⟨rfl, rfl, _, _, HGn, HKn, hHeld8⟩
          · rw [if_pos (by rfl)]
            go_wp2_with (go_at_call 58; refine (l04Unpart_is HP.out.2.2 _).mono ?_; rintro e w5 ⟨rfl, rfl⟩)
            refine hK9.out _ _ (by assumption) (fun hHeld4 => ?_)
            clear hK9 K9
            try simp only [Act.put, List.getElem_toArray, List.getElem_cons_succ, List.getElem_cons_zero, List.setIfInBounds_toArray, List.set_cons_zero, List.set_cons_succ]
            refine wpAnyH_take (i := 24) (v := ?v30) rfl (by kernel_rfl) (by kernel_rfl) (by kernel_rfl) (fun _ _ _ h => h) (Or.inl ⟨by kernel_rfl, ?hy30⟩) (by assumption) ?_
            case hy30 => (intro w9 hS9; (try dsimp only at hS9); go_simp; (try with_reducible rfl))
            try simp only [Act.put, List.getElem_toArray, List.getElem_cons_succ, List.getElem_cons_zero, List.setIfInBounds_toArray, List.set_cons_zero, List.set_cons_succ]
            refine wpAnyH_ready (rs := [4, 25]) (by kernel_rfl) (by simp) ?_
            refine AllReadyH.cons rfl (fun K9 hK9 => ?_) (AllReadyH.cons rfl (fun K9 hK9 => ?_) (AllReadyH.nil))
            · rw [if_pos (by rfl)]
              go_simp
              refine hK9.out _ _ (by assumption) (fun hHeld5 => ?_)
              clear hK9 K9
              try simp only [Act.put, List.getElem_toArray, List.getElem_cons_succ, List.getElem_cons_zero, List.setIfInBounds_toArray, List.set_cons_zero, List.set_cons_succ]
              refine wpAnyH_ready (rs := [25]) (by kernel_rfl) (by simp) ?_
              refine AllReadyH.cons rfl (fun K9 hK9 => ?_) AllReadyH.nil
              rw [if_pos (by rfl)]
              go_simp
              refine hK9.out _ _ (⟨cell_alloc _ hc1, cell_alloc _ hc2, cell_alloc _ hc3, cell_alloc _ hc4, cell_alloc _ hc5⟩) (fun hHeld6 => ?_)
              clear hK9 K9
              try simp only [Act.put, List.getElem_toArray, List.getElem_cons_succ, List.getElem_cons_zero, List.setIfInBounds_toArray, List.set_cons_zero, List.set_cons_succ]
              refine wpAnyH_ready (rs := [26]) (by kernel_rfl) (by simp) ?_
              refine AllReadyH.cons rfl (fun K9 hK9 => ?_) AllReadyH.nil
              refine step_append_lies _ ?_ (.tmp 27) (.tmp 48) 24 ?_ B 51 iA (.agg #[.string ⟨#[]⟩, .bool false, .string ⟨#[]⟩, .string ⟨#[]⟩, .string ⟨#[]⟩]) 5 72 Tryz.underlying24 hi hzA0 hzA1 hzA2 rfl (by decide) (.slice a1 g.affixes.length c1) g.affixes.length (g.affixes.flatMap affL) ?_ (own_below HG.out.aff (one_belowS w _)) ⟨w.heap.size, 0, none⟩ 1 1 (affL ⟨ws[1], fb, p3, p4, p5⟩) ?_ rfl (new_cells w _ _ _ rfl) affL_one (by decide) (by unfold maxLen; omega) (by omega) hBa _ rfl ?_; rfl; rfl; rfl; rfl
              intro gn cap w6 hown6 hgr6 hloc6 hlt6
              obtain ⟨HGn, HKn, hcf, hgn⟩ := HG.out.affix (one_belowS w _) hBw ⟨ws[1], fb, p3, p4, p5⟩ hlim gn cap hown6 hgr6 (hloc6)
              have hfr : ∀ k, k < w.heap.size → some k ≠ (Value.slice a1 g.affixes.length c1).ownBlock → w6.heap[k]? = w.heap[k]? := fun k hk hne => (hgr6.block k (Nat.lt_of_lt_of_le hk (one_belowS w _).size) hne).trans ((one_belowS w _).block k hk)
              refine hK9.out _ _ (⟨cell_of_sameR (hfr b0 hb0lt hb0n) hc1, cell_of_sameR (hfr b0 hb0lt hb0n) hc2, cell_of_sameR (hfr b0 hb0lt hb0n) hc3, cell_of_sameR (hfr b0 hb0lt hb0n) hc4, cell_of_sameR (hfr b0 hb0lt hb0n) hc5⟩) (fun hHeld7 => ?_)
              clear hK9 K9
              try simp only [Act.put, List.getElem_toArray, List.getElem_cons_succ, List.getElem_cons_zero, List.setIfInBounds_toArray, List.set_cons_zero, List.set_cons_succ]
              refine wpAnyH_take (i := 27) (v := ?v31) rfl (by kernel_rfl) (by kernel_rfl) (by kernel_rfl) (fun _ _ _ h => h) (Or.inl ⟨by kernel_rfl, ?hy31⟩) (by assumption) ?_
              case hy31 => (intro w9 hS9; (try dsimp only at hS9); go_simp; (try with_reducible rfl))
              try simp only [Act.put, List.getElem_toArray, List.getElem_cons_succ, List.getElem_cons_zero, List.setIfInBounds_toArray, List.set_cons_zero, List.set_cons_succ]
              refine wpAnyH_take (i := 28) (v := ?v32) rfl (by kernel_rfl) (by kernel_rfl) (by kernel_rfl) (fun _ _ _ h => h) (Or.inl ⟨by kernel_rfl, ?hy32⟩) (by assumption) ?_
              case hy32 => (intro w9 hS9; (try dsimp only at hS9); go_simp; (try with_reducible rfl))
              try simp only [Act.put, List.getElem_toArray, List.getElem_cons_succ, List.getElem_cons_zero, List.setIfInBounds_toArray, List.set_cons_zero, List.set_cons_succ]
              refine wpAnyH_ready (rs := [29]) (by kernel_rfl) (by simp) ?_
              refine AllReadyH.cons rfl (fun K9 hK9 => ?_) AllReadyH.nil
              rw [if_pos (by rfl)]
              go_simp
              refine hK9.out _ _ (⟨(cell_setR (Ne.symm hb0gb) (cell_of_sameR (hfr b0 hb0lt hb0n) hc1)), (cell_setR (Ne.symm hb0gb) (cell_of_sameR (hfr b0 hb0lt hb0n) hc2)), (cell_setR (Ne.symm hb0gb) (cell_of_sameR (hfr b0 hb0lt hb0n) hc3)), (cell_setR (Ne.symm hb0gb) (cell_of_sameR (hfr b0 hb0lt hb0n) hc4)), (cell_setR (Ne.symm hb0gb) (cell_of_sameR (hfr b0 hb0lt hb0n) hc5))⟩) (fun hHeld8 => ?_)
              clear hK9 K9
              try simp only [Act.put, List.getElem_toArray, List.getElem_cons_succ, List.getElem_cons_zero, List.setIfInBounds_toArray, List.set_cons_zero, List.set_cons_succ]
              refine wpAnyH_done (by kernel_rfl) ?_ _
              go_wp2_with fail
              go_meet
              exact ⟨rfl, rfl, _, _, HGn, HKn, hHeld8⟩
            · rw [if_pos (by rfl)]
              go_simp
              refine hK9.out _ _ (⟨cell_alloc _ hc1, cell_alloc _ hc2, cell_alloc _ hc3, cell_alloc _ hc4, cell_alloc _ hc5⟩) (fun hHeld5 => ?_)
              clear hK9 K9
              try simp only [Act.put, List.getElem_toArray, List.getElem_cons_succ, List.getElem_cons_zero, List.setIfInBounds_toArray, List.set_cons_zero, List.set_cons_succ]
              refine wpAnyH_ready (rs := [4]) (by kernel_rfl) (by simp) ?_
              refine AllReadyH.cons rfl (fun K9 hK9 => ?_) AllReadyH.nil
              rw [if_pos (by rfl)]
              go_simp
              refine hK9.out _ _ (by assumption) (fun hHeld6 => ?_)
              clear hK9 K9
              try simp only [Act.put, List.getElem_toArray, List.getElem_cons_succ, List.getElem_cons_zero, List.setIfInBounds_toArray, List.set_cons_zero, List.set_cons_succ]
              refine wpAnyH_ready (rs := [26]) (by kernel_rfl) (by simp) ?_
              refine AllReadyH.cons rfl (fun K9 hK9 => ?_) AllReadyH.nil
              refine step_append_lies _ ?_ (.tmp 27) (.tmp 48) 24 ?_ B 51 iA (.agg #[.string ⟨#[]⟩, .bool false, .string ⟨#[]⟩, .string ⟨#[]⟩, .string ⟨#[]⟩]) 5 72 Tryz.underlying24 hi hzA0 hzA1 hzA2 rfl (by decide) (.slice a1 g.affixes.length c1) g.affixes.length (g.affixes.flatMap affL) ?_ (own_below HG.out.aff (one_belowS w _)) ⟨w.heap.size, 0, none⟩ 1 1 (affL ⟨ws[1], fb, p3, p4, p5⟩) ?_ rfl (new_cells w _ _ _ rfl) affL_one (by decide) (by unfold maxLen; omega) (by omega) hBa _ rfl ?_; rfl; rfl; rfl; rfl
              intro gn cap w6 hown6 hgr6 hloc6 hlt6
              obtain ⟨HGn, HKn, hcf, hgn⟩ := HG.out.affix (one_belowS w _) hBw ⟨ws[1], fb, p3, p4, p5⟩ hlim gn cap hown6 hgr6 (hloc6)
              have hfr : ∀ k, k < w.heap.size → some k ≠ (Value.slice a1 g.affixes.length c1).ownBlock → w6.heap[k]? = w.heap[k]? := fun k hk hne => (hgr6.block k (Nat.lt_of_lt_of_le hk (one_belowS w _).size) hne).trans ((one_belowS w _).block k hk)
              refine hK9.out _ _ (⟨cell_of_sameR (hfr b0 hb0lt hb0n) hc1, cell_of_sameR (hfr b0 hb0lt hb0n) hc2, cell_of_sameR (hfr b0 hb0lt hb0n) hc3, cell_of_sameR (hfr b0 hb0lt hb0n) hc4, cell_of_sameR (hfr b0 hb0lt hb0n) hc5⟩) (fun hHeld7 => ?_)
              clear hK9 K9
              try simp only [Act.put, List.getElem_toArray, List.getElem_cons_succ, List.getElem_cons_zero, List.setIfInBounds_toArray, List.set_cons_zero, List.set_cons_succ]
              refine wpAnyH_take (i := 27) (v := ?v33) rfl (by kernel_rfl) (by kernel_rfl) (by kernel_rfl) (fun _ _ _ h => h) (Or.inl ⟨by kernel_rfl, ?hy33⟩) (by assumption) ?_
              case hy33 => (intro w9 hS9; (try dsimp only at hS9); go_simp; (try with_reducible rfl))
              try simp only [Act.put, List.getElem_toArray, List.getElem_cons_succ, List.getElem_cons_zero, List.setIfInBounds_toArray, List.set_cons_zero, List.set_cons_succ]
              refine wpAnyH_take (i := 28) (v := ?v34) rfl (by kernel_rfl) (by kernel_rfl) (by kernel_rfl) (fun _ _ _ h => h) (Or.inl ⟨by kernel_rfl, ?hy34⟩) (by assumption) ?_
              case hy34 => (intro w9 hS9; (try dsimp only at hS9); go_simp; (try with_reducible rfl))
              try simp only [Act.put, List.getElem_toArray, List.getElem_cons_succ, List.getElem_cons_zero, List.setIfInBounds_toArray, List.set_cons_zero, List.set_cons_succ]
              refine wpAnyH_ready (rs := [29]) (by kernel_rfl) (by simp) ?_
              refine AllReadyH.cons rfl (fun K9 hK9 => ?_) AllReadyH.nil
              rw [if_pos (by rfl)]
              go_simp
              refine hK9.out _ _ (⟨(cell_setR (Ne.symm hb0gb) (cell_of_sameR (hfr b0 hb0lt hb0n) hc1)), (cell_setR (Ne.symm hb0gb) (cell_of_sameR (hfr b0 hb0lt hb0n) hc2)), (cell_setR (Ne.symm hb0gb) (cell_of_sameR (hfr b0 hb0lt hb0n) hc3)), (cell_setR (Ne.symm hb0gb) (cell_of_sameR (hfr b0 hb0lt hb0n) hc4)), (cell_setR (Ne.symm hb0gb) (cell_of_sameR (hfr b0 hb0lt hb0n) hc5))⟩) (fun hHeld8 => ?_)
              clear hK9 K9
              try simp only [Act.put, List.getElem_toArray, List.getElem_cons_succ, List.getElem_cons_zero, List.setIfInBounds_toArray, List.set_cons_zero, List.set_cons_succ]
              refine wpAnyH_done (by kernel_rfl) ?_ _
              go_wp2_with fail
              go_meet
              exact ⟨rfl, rfl, _, _, HGn, HKn, hHeld8⟩
    case rest =>
      obtain ⟨rfl, rfl, u1, u2, hGB, hKG, r1, r2, r3, r4, r5⟩ := hcut
      have HGB := Lib.hid hGB
      have HKG := Lib.hid hKG
      have HX : Hid (affOfW ws = ⟨ws[1], fb, p3, p4, p5⟩) := Lib.hid (by
        unfold affOfW
        rw [atW_at (show 1 < ws.length by omega), atW_at (show 2 < ws.length by omega), atW_at (show 3 < ws.length by omega), atW_at (show 4 < ws.length by omega), atW_at (show 5 < ws.length by omega), HP.out.1, HP.out.2.1, HP.out.2.2, ← hfb]
        rfl)
      have HS : Hid (specLine g ws = if (isB ws[3] [] = false ∧ isB ws[4] [] = false ∧ isB ws[5] [] = false) ∧ (fb = true ∨ isB ws[2] backKey = true) then some ⟨g.affixes ++ [⟨ws[1], fb, p3, p4, p5⟩], g.stems⟩ else none) := Lib.hid (by
        unfold specLine
        rw [if_pos ⟨by rw [e0]; exact h1, h2, h3⟩, HX.out, atW_at (show 2 < ws.length by omega), atW_at (show 3 < ws.length by omega), atW_at (show 4 < ws.length by omega), atW_at (show 5 < ws.length by omega), ← hfb]
        rfl)
      clear hGB hKG hlim hw0 hw1 hw0a hc0 hc1 hc2 hc3 hc4 hc5
      cases hb3 : (ws[3].toList == ([] : List UInt8))
      case true =>
        have H3 := Lib.hid hb3
        go_wp2
        go_ret
        exact LineQ.no (HS.out.trans (if_neg (fun hc => by have := hc.1.1; unfold isB at this; rw [H3.out] at this; cases this))) HKG.out
      cases hb4 : (ws[4].toList == ([] : List UInt8))
      case true =>
        have H4 := Lib.hid hb4
        go_wp2
        go_ret
        exact LineQ.no (HS.out.trans (if_neg (fun hc => by have := hc.1.2.1; unfold isB at this; rw [H4.out] at this; cases this))) HKG.out
      cases hb5 : (ws[5].toList == ([] : List UInt8))
      case true =>
        have H5 := Lib.hid hb5
        go_wp2
        go_ret
        exact LineQ.no (HS.out.trans (if_neg (fun hc => by have := hc.1.2.2; unfold isB at this; rw [H5.out] at this; cases this))) HKG.out
      have HE := Lib.hid (And.intro hb3 (And.intro hb4 hb5))
      cases fb
      case true =>
        go_wp2
        go_ret
        exact LineQ.yes (HS.out.trans (if_pos ⟨⟨HE.out.1, HE.out.2.1, HE.out.2.2⟩, by first | exact .inl rfl | exact .inl trivial⟩)) HGB.out HKG.out
      cases hbk : (ws[2].toList == [98, 97, 99, 107])
      · have HK := Lib.hid hbk
        go_wp2
        go_ret
        exact LineQ.no (HS.out.trans (if_neg (fun hc => by
          rcases hc.2 with h | h
          · cases h
          · unfold isB backKey at h; rw [HK.out] at h; cases h))) HKG.out
      · have HK := Lib.hid hbk
        go_wp2
        go_ret
        exact LineQ.yes (HS.out.trans (if_pos ⟨⟨HE.out.1, HE.out.2.1, HE.out.2.2⟩, .inr HK.out⟩)) HGB.out HKG.out
  · have HN := Lib.hid hA
    clear hA
    cases ha0 : (ws[0].toList == [97, 102, 102, 105, 120])
    · have HA0 : Hid (¬ (isB (atW ws 0) affKey = true)) := Lib.hid (by rw [e0]; unfold isB affKey; rw [ha0]; simp)
      cases hs0 : (ws[0].toList == [115, 116, 101, 109])
      · have HS : Hid (specLine g ws = none) := Lib.hid (by
          unfold specLine
          rw [if_neg (fun h => HA0.out h.1), if_neg (fun h => by have := h.1; rw [e0] at this; unfold isB stmKey at this; rw [hs0] at this; cases this)])
        go_enter Tryz.func33, Tryz.ntmps33
        go_wp2
        go_ret
        exact LineQ.no HS.out (KeepG.refl _ _ _)
      by_cases hl1 : 1 < ws.length
      · have HS : Hid (specLine g ws = some ⟨g.affixes, g.stems ++ [⟨ws[1], ws.drop 2⟩]⟩) := Lib.hid (by
          unfold specLine
          rw [if_neg (fun h => HA0.out h.1), if_pos ⟨by rw [e0]; exact hs0, hl1⟩, atW_at hl1])
        obtain ⟨b1', o1', e1, hc1, -⟩ := HC.out 1 (by omega)
        cases e1
        have h1I : (1 : Int) < (ws.length : Int) := by omega
        have h2I : (2 : Int) ≤ (ws.length : Int) := by omega
        have hcI : (ws.length : Int) ≤ (c : Int) := by omega
        have h2c : (2 : Int) ≤ (c : Int) := by omega
        obtain ⟨iS, hi, hzA0, hzA1, hzA2⟩ := info_parts infoStmS
        have hb0b : w0.heap.size ≤ b0 ∧ b0 < w.heap.size := HW.out.block (by omega) b0 o0 rfl
        have hb0lt : b0 < w.heap.size := hb0b.2
        have hb0n : some b0 ≠ (Value.slice a2 g.stems.length c2).ownBlock := fun e => by have := (World.ownsRow.lt HG0.out.stm b0 e.symm).2; omega
        have hb0gb : b0 ≠ gb := by have := HG0.out.gbB; omega
        have hBw : B ≤ w.heap.size := Nat.le_trans hBw0 HBw.out.size
        have hw1a := cell_alloc (.cells #[] 9) hw1
        have hdl : (ws.drop 2).length = ws.length - 2 := List.length_drop
        have HDL := Lib.hid hdl
        have HSz := Lib.hid HW.out.2
        have HCD : Hid (∀ j (h : j < (ws.drop 2).length), (w.alloc (.cells #[] 9)).drew.cell? ⟨b0, o0 + 2 + j, none⟩ = some (.string (ws.drop 2)[j])) := Lib.hid fun j h => by
          obtain ⟨b9, o9, e9, hcj, -⟩ := HC.out (2 + j) (by omega)
          cases e9
          rw [List.getElem_drop, Nat.add_assoc]
          exact cell_alloc (.cells #[] 9) hcj
        clear hdl
        by_cases hc2 : c = 2
        · have HCD2 : Hid (∀ j (h : j < (ws.drop 2).length), (w.alloc (.cells #[] 9)).drew.cell? ⟨b0, o0 + j, none⟩ = some (.string (ws.drop 2)[j])) := Lib.hid fun j h => by rw [HDL.out] at h; omega
          subst hc2
          go_enter Tryz.func33, Tryz.ntmps33
          go_upto_region 5 with fail
          refine wp_region_held_drew (S := (fun w' => w'.cell? ⟨b0, o0 + 1, none⟩ = some (.string ws[1]))) (by kernel_rfl) ?_ (fun hHeld => ?_)
          · exact hc1
          refine wpAnyH_take (i := 0) (v := ?v35) rfl (by kernel_rfl) (by kernel_rfl) (by kernel_rfl) (fun _ _ _ h => h) (Or.inl ⟨by kernel_rfl, ?hy35⟩) (by assumption) ?_
          case hy35 => (intro w9 hS9; (try dsimp only at hS9); go_simp; (try with_reducible rfl))
          try simp only [Act.put, List.getElem_toArray, List.getElem_cons_succ, List.getElem_cons_zero, List.setIfInBounds_toArray, List.set_cons_zero, List.set_cons_succ]
          refine wpAnyH_take (i := 1) (v := ?v36) rfl (by kernel_rfl) (by kernel_rfl) (by kernel_rfl) (fun _ _ _ h => h) (Or.inl ⟨by kernel_rfl, ?hy36⟩) (by assumption) ?_
          case hy36 => (intro w9 hS9; (try dsimp only at hS9); go_simp; (try with_reducible rfl))
          try simp only [Act.put, List.getElem_toArray, List.getElem_cons_succ, List.getElem_cons_zero, List.setIfInBounds_toArray, List.set_cons_zero, List.set_cons_succ]
          refine wpAnyH_take (i := 2) (v := ?v37) rfl (by kernel_rfl) (by kernel_rfl) (by kernel_rfl) (fun _ _ _ h => h) (Or.inl ⟨by kernel_rfl, ?hy37⟩) (by assumption) ?_
          case hy37 => (intro w9 hS9; (try dsimp only at hS9); go_simp; (try with_reducible rfl))
          try simp only [Act.put, List.getElem_toArray, List.getElem_cons_succ, List.getElem_cons_zero, List.setIfInBounds_toArray, List.set_cons_zero, List.set_cons_succ]
          refine wpAnyH_take (i := 3) (v := ?v38) rfl (by kernel_rfl) (by kernel_rfl) (by kernel_rfl) (fun _ _ _ h => h) (Or.inl ⟨by kernel_rfl, ?hy38⟩) (by assumption) ?_
          case hy38 => (intro w9 hS9; (try dsimp only at hS9); go_simp; (try with_reducible rfl))
          try simp only [Act.put, List.getElem_toArray, List.getElem_cons_succ, List.getElem_cons_zero, List.setIfInBounds_toArray, List.set_cons_zero, List.set_cons_succ]
          refine wpAnyH_take (i := 5) (v := ?v39) rfl (by kernel_rfl) (by kernel_rfl) (by kernel_rfl) (fun _ _ _ h => h) (Or.inl ⟨by kernel_rfl, ?hy39⟩) (by assumption) ?_
          case hy39 => (intro w9 hS9; (try dsimp only at hS9); go_simp; (try with_reducible rfl))
          try simp only [Act.put, List.getElem_toArray, List.getElem_cons_succ, List.getElem_cons_zero, List.setIfInBounds_toArray, List.set_cons_zero, List.set_cons_succ]
          refine wpAnyH_take (i := 6) (v := ?v40) rfl (by kernel_rfl) (by kernel_rfl) (by kernel_rfl) (fun _ _ _ h => h) (Or.inl ⟨by kernel_rfl, ?hy40⟩) (by assumption) ?_
          case hy40 => (intro w9 hS9; (try dsimp only at hS9); go_simp; (try with_reducible rfl))
          try simp only [Act.put, List.getElem_toArray, List.getElem_cons_succ, List.getElem_cons_zero, List.setIfInBounds_toArray, List.set_cons_zero, List.set_cons_succ]
          refine wpAnyH_take (i := 7) (v := ?v41) rfl (by kernel_rfl) (by kernel_rfl) (by kernel_rfl) (fun _ _ _ h => h) (Or.inl ⟨by kernel_rfl, ?hy41⟩) (by assumption) ?_
          case hy41 => (intro w9 hS9; (try dsimp only at hS9); go_simp; (try with_reducible rfl))
          try simp only [Act.put, List.getElem_toArray, List.getElem_cons_succ, List.getElem_cons_zero, List.setIfInBounds_toArray, List.set_cons_zero, List.set_cons_succ]
          refine wpAnyH_take (i := 9) (v := ?v42) rfl (by kernel_rfl) (by kernel_rfl) (by kernel_rfl) (fun _ _ _ h => h) (Or.inl ⟨by kernel_rfl, ?hy42⟩) (by assumption) ?_
          case hy42 => (intro w9 hS9; (try dsimp only at hS9); go_simp; (try with_reducible rfl))
          try simp only [Act.put, List.getElem_toArray, List.getElem_cons_succ, List.getElem_cons_zero, List.setIfInBounds_toArray, List.set_cons_zero, List.set_cons_succ]
          refine wpAnyH_take (i := 10) (v := ?v43) rfl (by kernel_rfl) (by kernel_rfl) (by kernel_rfl) (fun _ _ _ h => h) (Or.inl ⟨by kernel_rfl, ?hy43⟩) (by assumption) ?_
          case hy43 => (intro w9 hS9; (try dsimp only at hS9); go_simp; (try with_reducible rfl))
          try simp only [Act.put, List.getElem_toArray, List.getElem_cons_succ, List.getElem_cons_zero, List.setIfInBounds_toArray, List.set_cons_zero, List.set_cons_succ]
          refine wpAnyH_ready (rs := [4, 8]) (by kernel_rfl) (by simp) ?_
          refine AllReadyH.cons rfl (fun K9 hK9 => ?_) (AllReadyH.cons rfl (fun K9 hK9 => ?_) (AllReadyH.nil))
          · rw [if_pos (by rfl)]
            go_simp
            refine hK9.out _ _ (by assumption) (fun hHeld2 => ?_)
            clear hK9 K9
            try simp only [Act.put, List.getElem_toArray, List.getElem_cons_succ, List.getElem_cons_zero, List.setIfInBounds_toArray, List.set_cons_zero, List.set_cons_succ]
            refine wpAnyH_ready (rs := [8]) (by kernel_rfl) (by simp) ?_
            refine AllReadyH.cons rfl (fun K9 hK9 => ?_) AllReadyH.nil
            rw [if_pos (by rfl)]
            go_simp
            refine hK9.out _ _ (cell_alloc _ hc1) (fun hHeld3 => ?_)
            clear hK9 K9
            try simp only [Act.put, List.getElem_toArray, List.getElem_cons_succ, List.getElem_cons_zero, List.setIfInBounds_toArray, List.set_cons_zero, List.set_cons_succ]
            refine wpAnyH_ready (rs := [11]) (by kernel_rfl) (by simp) ?_
            refine AllReadyH.cons rfl (fun K9 hK9 => ?_) AllReadyH.nil
            refine step_lst ?_ (.tmp 98) (.tmp 100) ?_ w.heap.size w.heap.size 0 0 [] rfl ?_ (own_emptyS w) b0 o0 0 0 (ws.drop 2) (by have := HDL.out; omega) ?_ HCD2.out (by show 0 + _ ≤ _; rw [HDL.out]; omega) (one_belowS w _).size 0 (by have := HDL.out; show _ = 0 + _; omega) (ws.drop 2) rfl ?_; rfl; rfl; rfl; rfl
            intro g6 cap6 w6 hown6 hgr6 hloc6
            have hbW6 : Below w.heap.size w w6 := (one_belowS w _).grown hgr6 (one_belowS w _).size (fun k hk => by have := Option.some.inj hk; omega)
            have hg6 : w.heap.size ≤ g6 := by rcases hloc6 with h | h; omega; exact Nat.le_trans (one_belowS w _).size h
            have hw16 := cell_below hbW6 hw1
            have hc16 := cell_below hbW6 hc1
            have hw17 := cell_alloc (.cells #[.string ws[1], .slice (some ⟨g6, 0, none⟩) 0 cap6] 59) hw16
            have hg6l : g6 < w6.heap.size := (World.ownsRow.lt hown6 g6 rfl).2
            have hu6 : StrsW w6 g6 (g6 + 1) (.slice (some ⟨g6, 0, none⟩) 0 cap6) (ws.drop 2) := own_strsS hown6 (fun y hy => HSz.out y (List.mem_of_mem_drop hy))
            refine hK9.out _ _ (hc16) (fun hHeld4 => ?_)
            clear hK9 K9
            try simp only [Act.put, List.getElem_toArray, List.getElem_cons_succ, List.getElem_cons_zero, List.setIfInBounds_toArray, List.set_cons_zero, List.set_cons_succ]
            refine wpAnyH_take (i := 12) (v := ?v44) rfl (by kernel_rfl) (by kernel_rfl) (by kernel_rfl) (fun _ _ _ h => h) (Or.inl ⟨by kernel_rfl, ?hy44⟩) (by assumption) ?_
            case hy44 => (intro w9 hS9; (try dsimp only at hS9); go_simp; (try with_reducible rfl))
            try simp only [Act.put, List.getElem_toArray, List.getElem_cons_succ, List.getElem_cons_zero, List.setIfInBounds_toArray, List.set_cons_zero, List.set_cons_succ]
            refine wpAnyH_ready (rs := [13]) (by kernel_rfl) (by simp) ?_
            refine AllReadyH.cons rfl (fun K9 hK9 => ?_) AllReadyH.nil
            rw [if_pos (by rfl)]
            go_simp
            refine hK9.out _ _ (cell_alloc _ hc16) (fun hHeld5 => ?_)
            clear hK9 K9
            try simp only [Act.put, List.getElem_toArray, List.getElem_cons_succ, List.getElem_cons_zero, List.setIfInBounds_toArray, List.set_cons_zero, List.set_cons_succ]
            refine wpAnyH_ready (rs := [14]) (by kernel_rfl) (by simp) ?_
            refine AllReadyH.cons rfl (fun K9 hK9 => ?_) AllReadyH.nil
            have hbW2 : Below w.heap.size w (w6.alloc (.cells #[.string ws[1], .slice (some ⟨g6, 0, none⟩) 0 cap6] 59)) := hbW6.trans (((Below.refl _ _).alloc (Nat.le_refl _) _).mono hbW6.size)
            refine step_append_lies _ ?_ (.tmp 94) (.tmp 103) 25 ?_ B 59 iS (.agg #[.string ⟨#[]⟩, .slice none 0 0]) 2 40 Tryz.underlying25 hi hzA0 hzA1 hzA2 rfl (by decide) (.slice a2 g.stems.length c2) g.stems.length ((g.stems.zip us).flatMap stemL) ?_ (own_below HG.out.stm hbW2) ⟨w6.heap.size, 0, none⟩ 1 1 [.string ws[1], .slice (some ⟨g6, 0, none⟩) 0 cap6] ?_ rfl (new_cells2 w6 _ _ _ rfl) stm_oneS (by decide) (by unfold maxLen; omega) (by omega) (Nat.le_trans hBw hbW2.size) _ rfl ?_; rfl; rfl; rfl; rfl
            intro gn cap w8 hown8 hgr8 hloc8 hlt8
            obtain ⟨HGn, HKn, hcf⟩ := HG.out.stem hbW2 hBw ⟨ws[1], ws.drop 2⟩ (.slice (some ⟨g6, 0, none⟩) 0 cap6) g6 (HSz.out _ (List.getElem_mem _)) gn cap (hu6.below ((Below.refl _ _).alloc (Nat.le_refl _) _)) ⟨by omega, by simp; omega⟩ (fun j hj => by have := (HG.out.low j hj).2; omega) ⟨fun e => by have := (World.ownsRow.lt HG.out.aff _ e).2; omega, fun e => by have := (World.ownsRow.lt HG.out.stm _ e).2; omega⟩ hown8 hgr8 hloc8
            have hfr8 : w8.heap[b0]? = w.heap[b0]? := (hgr8.block b0 (Nat.lt_of_lt_of_le hb0lt hbW2.size) hb0n).trans (hbW2.block b0 hb0lt)
            refine hK9.out _ _ (cell_of_sameR hfr8 hc1) (fun hHeld6 => ?_)
            clear hK9 K9
            try simp only [Act.put, List.getElem_toArray, List.getElem_cons_succ, List.getElem_cons_zero, List.setIfInBounds_toArray, List.set_cons_zero, List.set_cons_succ]
            refine wpAnyH_take (i := 15) (v := ?v45) rfl (by kernel_rfl) (by kernel_rfl) (by kernel_rfl) (fun _ _ _ h => h) (Or.inl ⟨by kernel_rfl, ?hy45⟩) (by assumption) ?_
            case hy45 => (intro w9 hS9; (try dsimp only at hS9); go_simp; (try with_reducible rfl))
            try simp only [Act.put, List.getElem_toArray, List.getElem_cons_succ, List.getElem_cons_zero, List.setIfInBounds_toArray, List.set_cons_zero, List.set_cons_succ]
            refine wpAnyH_take (i := 16) (v := ?v46) rfl (by kernel_rfl) (by kernel_rfl) (by kernel_rfl) (fun _ _ _ h => h) (Or.inl ⟨by kernel_rfl, ?hy46⟩) (by assumption) ?_
            case hy46 => (intro w9 hS9; (try dsimp only at hS9); go_simp; (try with_reducible rfl))
            try simp only [Act.put, List.getElem_toArray, List.getElem_cons_succ, List.getElem_cons_zero, List.setIfInBounds_toArray, List.set_cons_zero, List.set_cons_succ]
            refine wpAnyH_ready (rs := [17]) (by kernel_rfl) (by simp) ?_
            refine AllReadyH.cons rfl (fun K9 hK9 => ?_) AllReadyH.nil
            rw [if_pos (by rfl)]
            go_simp
            refine hK9.out _ _ (cell_setR (Ne.symm hb0gb) (cell_of_sameR hfr8 hc1)) (fun hHeld7 => ?_)
            clear hK9 K9
            try simp only [Act.put, List.getElem_toArray, List.getElem_cons_succ, List.getElem_cons_zero, List.setIfInBounds_toArray, List.set_cons_zero, List.set_cons_succ]
            refine wpAnyH_done (by kernel_rfl) ?_ _
            go_wp2
            go_ret
            exact LineQ.yes HS.out HGn HKn
          · rw [if_pos (by rfl)]
            go_simp
            refine hK9.out _ _ (cell_alloc _ hc1) (fun hHeld2 => ?_)
            clear hK9 K9
            try simp only [Act.put, List.getElem_toArray, List.getElem_cons_succ, List.getElem_cons_zero, List.setIfInBounds_toArray, List.set_cons_zero, List.set_cons_succ]
            refine wpAnyH_ready (rs := [4, 11]) (by kernel_rfl) (by simp) ?_
            refine AllReadyH.cons rfl (fun K9 hK9 => ?_) (AllReadyH.cons rfl (fun K9 hK9 => ?_) (AllReadyH.nil))
            · rw [if_pos (by rfl)]
              go_simp
              refine hK9.out _ _ (by assumption) (fun hHeld3 => ?_)
              clear hK9 K9
              try simp only [Act.put, List.getElem_toArray, List.getElem_cons_succ, List.getElem_cons_zero, List.setIfInBounds_toArray, List.set_cons_zero, List.set_cons_succ]
              refine wpAnyH_ready (rs := [11]) (by kernel_rfl) (by simp) ?_
              refine AllReadyH.cons rfl (fun K9 hK9 => ?_) AllReadyH.nil
              refine step_lst ?_ (.tmp 98) (.tmp 100) ?_ w.heap.size w.heap.size 0 0 [] rfl ?_ (own_emptyS w) b0 o0 0 0 (ws.drop 2) (by have := HDL.out; omega) ?_ HCD2.out (by show 0 + _ ≤ _; rw [HDL.out]; omega) (one_belowS w _).size 0 (by have := HDL.out; show _ = 0 + _; omega) (ws.drop 2) rfl ?_; rfl; rfl; rfl; rfl
              intro g6 cap6 w6 hown6 hgr6 hloc6
              have hbW6 : Below w.heap.size w w6 := (one_belowS w _).grown hgr6 (one_belowS w _).size (fun k hk => by have := Option.some.inj hk; omega)
              have hg6 : w.heap.size ≤ g6 := by rcases hloc6 with h | h; omega; exact Nat.le_trans (one_belowS w _).size h
              have hw16 := cell_below hbW6 hw1
              have hc16 := cell_below hbW6 hc1
              have hw17 := cell_alloc (.cells #[.string ws[1], .slice (some ⟨g6, 0, none⟩) 0 cap6] 59) hw16
              have hg6l : g6 < w6.heap.size := (World.ownsRow.lt hown6 g6 rfl).2
              have hu6 : StrsW w6 g6 (g6 + 1) (.slice (some ⟨g6, 0, none⟩) 0 cap6) (ws.drop 2) := own_strsS hown6 (fun y hy => HSz.out y (List.mem_of_mem_drop hy))
              refine hK9.out _ _ (hc16) (fun hHeld4 => ?_)
              clear hK9 K9
              try simp only [Act.put, List.getElem_toArray, List.getElem_cons_succ, List.getElem_cons_zero, List.setIfInBounds_toArray, List.set_cons_zero, List.set_cons_succ]
              refine wpAnyH_take (i := 12) (v := ?v47) rfl (by kernel_rfl) (by kernel_rfl) (by kernel_rfl) (fun _ _ _ h => h) (Or.inl ⟨by kernel_rfl, ?hy47⟩) (by assumption) ?_
              case hy47 => (intro w9 hS9; (try dsimp only at hS9); go_simp; (try with_reducible rfl))
              try simp only [Act.put, List.getElem_toArray, List.getElem_cons_succ, List.getElem_cons_zero, List.setIfInBounds_toArray, List.set_cons_zero, List.set_cons_succ]
              refine wpAnyH_ready (rs := [13]) (by kernel_rfl) (by simp) ?_
              refine AllReadyH.cons rfl (fun K9 hK9 => ?_) AllReadyH.nil
              rw [if_pos (by rfl)]
              go_simp
              refine hK9.out _ _ (cell_alloc _ hc16) (fun hHeld5 => ?_)
              clear hK9 K9
              try simp only [Act.put, List.getElem_toArray, List.getElem_cons_succ, List.getElem_cons_zero, List.setIfInBounds_toArray, List.set_cons_zero, List.set_cons_succ]
              refine wpAnyH_ready (rs := [14]) (by kernel_rfl) (by simp) ?_
              refine AllReadyH.cons rfl (fun K9 hK9 => ?_) AllReadyH.nil
              have hbW2 : Below w.heap.size w (w6.alloc (.cells #[.string ws[1], .slice (some ⟨g6, 0, none⟩) 0 cap6] 59)) := hbW6.trans (((Below.refl _ _).alloc (Nat.le_refl _) _).mono hbW6.size)
              refine step_append_lies _ ?_ (.tmp 94) (.tmp 103) 25 ?_ B 59 iS (.agg #[.string ⟨#[]⟩, .slice none 0 0]) 2 40 Tryz.underlying25 hi hzA0 hzA1 hzA2 rfl (by decide) (.slice a2 g.stems.length c2) g.stems.length ((g.stems.zip us).flatMap stemL) ?_ (own_below HG.out.stm hbW2) ⟨w6.heap.size, 0, none⟩ 1 1 [.string ws[1], .slice (some ⟨g6, 0, none⟩) 0 cap6] ?_ rfl (new_cells2 w6 _ _ _ rfl) stm_oneS (by decide) (by unfold maxLen; omega) (by omega) (Nat.le_trans hBw hbW2.size) _ rfl ?_; rfl; rfl; rfl; rfl
              intro gn cap w8 hown8 hgr8 hloc8 hlt8
              obtain ⟨HGn, HKn, hcf⟩ := HG.out.stem hbW2 hBw ⟨ws[1], ws.drop 2⟩ (.slice (some ⟨g6, 0, none⟩) 0 cap6) g6 (HSz.out _ (List.getElem_mem _)) gn cap (hu6.below ((Below.refl _ _).alloc (Nat.le_refl _) _)) ⟨by omega, by simp; omega⟩ (fun j hj => by have := (HG.out.low j hj).2; omega) ⟨fun e => by have := (World.ownsRow.lt HG.out.aff _ e).2; omega, fun e => by have := (World.ownsRow.lt HG.out.stm _ e).2; omega⟩ hown8 hgr8 hloc8
              have hfr8 : w8.heap[b0]? = w.heap[b0]? := (hgr8.block b0 (Nat.lt_of_lt_of_le hb0lt hbW2.size) hb0n).trans (hbW2.block b0 hb0lt)
              refine hK9.out _ _ (cell_of_sameR hfr8 hc1) (fun hHeld6 => ?_)
              clear hK9 K9
              try simp only [Act.put, List.getElem_toArray, List.getElem_cons_succ, List.getElem_cons_zero, List.setIfInBounds_toArray, List.set_cons_zero, List.set_cons_succ]
              refine wpAnyH_take (i := 15) (v := ?v48) rfl (by kernel_rfl) (by kernel_rfl) (by kernel_rfl) (fun _ _ _ h => h) (Or.inl ⟨by kernel_rfl, ?hy48⟩) (by assumption) ?_
              case hy48 => (intro w9 hS9; (try dsimp only at hS9); go_simp; (try with_reducible rfl))
              try simp only [Act.put, List.getElem_toArray, List.getElem_cons_succ, List.getElem_cons_zero, List.setIfInBounds_toArray, List.set_cons_zero, List.set_cons_succ]
              refine wpAnyH_take (i := 16) (v := ?v49) rfl (by kernel_rfl) (by kernel_rfl) (by kernel_rfl) (fun _ _ _ h => h) (Or.inl ⟨by kernel_rfl, ?hy49⟩) (by assumption) ?_
              case hy49 => (intro w9 hS9; (try dsimp only at hS9); go_simp; (try with_reducible rfl))
              try simp only [Act.put, List.getElem_toArray, List.getElem_cons_succ, List.getElem_cons_zero, List.setIfInBounds_toArray, List.set_cons_zero, List.set_cons_succ]
              refine wpAnyH_ready (rs := [17]) (by kernel_rfl) (by simp) ?_
              refine AllReadyH.cons rfl (fun K9 hK9 => ?_) AllReadyH.nil
              rw [if_pos (by rfl)]
              go_simp
              refine hK9.out _ _ (cell_setR (Ne.symm hb0gb) (cell_of_sameR hfr8 hc1)) (fun hHeld7 => ?_)
              clear hK9 K9
              try simp only [Act.put, List.getElem_toArray, List.getElem_cons_succ, List.getElem_cons_zero, List.setIfInBounds_toArray, List.set_cons_zero, List.set_cons_succ]
              refine wpAnyH_done (by kernel_rfl) ?_ _
              go_wp2
              go_ret
              exact LineQ.yes HS.out HGn HKn
            · refine step_lst ?_ (.tmp 98) (.tmp 100) ?_ w.heap.size w.heap.size 0 0 [] rfl ?_ (own_emptyS w) b0 o0 0 0 (ws.drop 2) (by have := HDL.out; omega) ?_ HCD2.out (by show 0 + _ ≤ _; rw [HDL.out]; omega) (one_belowS w _).size 0 (by have := HDL.out; show _ = 0 + _; omega) (ws.drop 2) rfl ?_; rfl; rfl; rfl; rfl
              intro g6 cap6 w6 hown6 hgr6 hloc6
              have hbW6 : Below w.heap.size w w6 := (one_belowS w _).grown hgr6 (one_belowS w _).size (fun k hk => by have := Option.some.inj hk; omega)
              have hg6 : w.heap.size ≤ g6 := by rcases hloc6 with h | h; omega; exact Nat.le_trans (one_belowS w _).size h
              have hw16 := cell_below hbW6 hw1
              have hc16 := cell_below hbW6 hc1
              have hw17 := cell_alloc (.cells #[.string ws[1], .slice (some ⟨g6, 0, none⟩) 0 cap6] 59) hw16
              have hg6l : g6 < w6.heap.size := (World.ownsRow.lt hown6 g6 rfl).2
              have hu6 : StrsW w6 g6 (g6 + 1) (.slice (some ⟨g6, 0, none⟩) 0 cap6) (ws.drop 2) := own_strsS hown6 (fun y hy => HSz.out y (List.mem_of_mem_drop hy))
              refine hK9.out _ _ (hc16) (fun hHeld3 => ?_)
              clear hK9 K9
              try simp only [Act.put, List.getElem_toArray, List.getElem_cons_succ, List.getElem_cons_zero, List.setIfInBounds_toArray, List.set_cons_zero, List.set_cons_succ]
              refine wpAnyH_take (i := 12) (v := ?v50) rfl (by kernel_rfl) (by kernel_rfl) (by kernel_rfl) (fun _ _ _ h => h) (Or.inl ⟨by kernel_rfl, ?hy50⟩) (by assumption) ?_
              case hy50 => (intro w9 hS9; (try dsimp only at hS9); go_simp; (try with_reducible rfl))
              try simp only [Act.put, List.getElem_toArray, List.getElem_cons_succ, List.getElem_cons_zero, List.setIfInBounds_toArray, List.set_cons_zero, List.set_cons_succ]
              refine wpAnyH_ready (rs := [4, 13]) (by kernel_rfl) (by simp) ?_
              refine AllReadyH.cons rfl (fun K9 hK9 => ?_) (AllReadyH.cons rfl (fun K9 hK9 => ?_) (AllReadyH.nil))
              · rw [if_pos (by rfl)]
                go_simp
                refine hK9.out _ _ (by assumption) (fun hHeld4 => ?_)
                clear hK9 K9
                try simp only [Act.put, List.getElem_toArray, List.getElem_cons_succ, List.getElem_cons_zero, List.setIfInBounds_toArray, List.set_cons_zero, List.set_cons_succ]
                refine wpAnyH_ready (rs := [13]) (by kernel_rfl) (by simp) ?_
                refine AllReadyH.cons rfl (fun K9 hK9 => ?_) AllReadyH.nil
                rw [if_pos (by rfl)]
                go_simp
                refine hK9.out _ _ (cell_alloc _ hc16) (fun hHeld5 => ?_)
                clear hK9 K9
                try simp only [Act.put, List.getElem_toArray, List.getElem_cons_succ, List.getElem_cons_zero, List.setIfInBounds_toArray, List.set_cons_zero, List.set_cons_succ]
                refine wpAnyH_ready (rs := [14]) (by kernel_rfl) (by simp) ?_
                refine AllReadyH.cons rfl (fun K9 hK9 => ?_) AllReadyH.nil
                have hbW2 : Below w.heap.size w (w6.alloc (.cells #[.string ws[1], .slice (some ⟨g6, 0, none⟩) 0 cap6] 59)) := hbW6.trans (((Below.refl _ _).alloc (Nat.le_refl _) _).mono hbW6.size)
                refine step_append_lies _ ?_ (.tmp 94) (.tmp 103) 25 ?_ B 59 iS (.agg #[.string ⟨#[]⟩, .slice none 0 0]) 2 40 Tryz.underlying25 hi hzA0 hzA1 hzA2 rfl (by decide) (.slice a2 g.stems.length c2) g.stems.length ((g.stems.zip us).flatMap stemL) ?_ (own_below HG.out.stm hbW2) ⟨w6.heap.size, 0, none⟩ 1 1 [.string ws[1], .slice (some ⟨g6, 0, none⟩) 0 cap6] ?_ rfl (new_cells2 w6 _ _ _ rfl) stm_oneS (by decide) (by unfold maxLen; omega) (by omega) (Nat.le_trans hBw hbW2.size) _ rfl ?_; rfl; rfl; rfl; rfl
                intro gn cap w8 hown8 hgr8 hloc8 hlt8
                obtain ⟨HGn, HKn, hcf⟩ := HG.out.stem hbW2 hBw ⟨ws[1], ws.drop 2⟩ (.slice (some ⟨g6, 0, none⟩) 0 cap6) g6 (HSz.out _ (List.getElem_mem _)) gn cap (hu6.below ((Below.refl _ _).alloc (Nat.le_refl _) _)) ⟨by omega, by simp; omega⟩ (fun j hj => by have := (HG.out.low j hj).2; omega) ⟨fun e => by have := (World.ownsRow.lt HG.out.aff _ e).2; omega, fun e => by have := (World.ownsRow.lt HG.out.stm _ e).2; omega⟩ hown8 hgr8 hloc8
                have hfr8 : w8.heap[b0]? = w.heap[b0]? := (hgr8.block b0 (Nat.lt_of_lt_of_le hb0lt hbW2.size) hb0n).trans (hbW2.block b0 hb0lt)
                refine hK9.out _ _ (cell_of_sameR hfr8 hc1) (fun hHeld6 => ?_)
                clear hK9 K9
                try simp only [Act.put, List.getElem_toArray, List.getElem_cons_succ, List.getElem_cons_zero, List.setIfInBounds_toArray, List.set_cons_zero, List.set_cons_succ]
                refine wpAnyH_take (i := 15) (v := ?v51) rfl (by kernel_rfl) (by kernel_rfl) (by kernel_rfl) (fun _ _ _ h => h) (Or.inl ⟨by kernel_rfl, ?hy51⟩) (by assumption) ?_
                case hy51 => (intro w9 hS9; (try dsimp only at hS9); go_simp; (try with_reducible rfl))
                try simp only [Act.put, List.getElem_toArray, List.getElem_cons_succ, List.getElem_cons_zero, List.setIfInBounds_toArray, List.set_cons_zero, List.set_cons_succ]
                refine wpAnyH_take (i := 16) (v := ?v52) rfl (by kernel_rfl) (by kernel_rfl) (by kernel_rfl) (fun _ _ _ h => h) (Or.inl ⟨by kernel_rfl, ?hy52⟩) (by assumption) ?_
                case hy52 => (intro w9 hS9; (try dsimp only at hS9); go_simp; (try with_reducible rfl))
                try simp only [Act.put, List.getElem_toArray, List.getElem_cons_succ, List.getElem_cons_zero, List.setIfInBounds_toArray, List.set_cons_zero, List.set_cons_succ]
                refine wpAnyH_ready (rs := [17]) (by kernel_rfl) (by simp) ?_
                refine AllReadyH.cons rfl (fun K9 hK9 => ?_) AllReadyH.nil
                rw [if_pos (by rfl)]
                go_simp
                refine hK9.out _ _ (cell_setR (Ne.symm hb0gb) (cell_of_sameR hfr8 hc1)) (fun hHeld7 => ?_)
                clear hK9 K9
                try simp only [Act.put, List.getElem_toArray, List.getElem_cons_succ, List.getElem_cons_zero, List.setIfInBounds_toArray, List.set_cons_zero, List.set_cons_succ]
                refine wpAnyH_done (by kernel_rfl) ?_ _
                go_wp2
                go_ret
                exact LineQ.yes HS.out HGn HKn
              · rw [if_pos (by rfl)]
                go_simp
                refine hK9.out _ _ (cell_alloc _ hc16) (fun hHeld4 => ?_)
                clear hK9 K9
                try simp only [Act.put, List.getElem_toArray, List.getElem_cons_succ, List.getElem_cons_zero, List.setIfInBounds_toArray, List.set_cons_zero, List.set_cons_succ]
                refine wpAnyH_ready (rs := [4]) (by kernel_rfl) (by simp) ?_
                refine AllReadyH.cons rfl (fun K9 hK9 => ?_) AllReadyH.nil
                rw [if_pos (by rfl)]
                go_simp
                refine hK9.out _ _ (by assumption) (fun hHeld5 => ?_)
                clear hK9 K9
                try simp only [Act.put, List.getElem_toArray, List.getElem_cons_succ, List.getElem_cons_zero, List.setIfInBounds_toArray, List.set_cons_zero, List.set_cons_succ]
                refine wpAnyH_ready (rs := [14]) (by kernel_rfl) (by simp) ?_
                refine AllReadyH.cons rfl (fun K9 hK9 => ?_) AllReadyH.nil
                have hbW2 : Below w.heap.size w (w6.alloc (.cells #[.string ws[1], .slice (some ⟨g6, 0, none⟩) 0 cap6] 59)) := hbW6.trans (((Below.refl _ _).alloc (Nat.le_refl _) _).mono hbW6.size)
                refine step_append_lies _ ?_ (.tmp 94) (.tmp 103) 25 ?_ B 59 iS (.agg #[.string ⟨#[]⟩, .slice none 0 0]) 2 40 Tryz.underlying25 hi hzA0 hzA1 hzA2 rfl (by decide) (.slice a2 g.stems.length c2) g.stems.length ((g.stems.zip us).flatMap stemL) ?_ (own_below HG.out.stm hbW2) ⟨w6.heap.size, 0, none⟩ 1 1 [.string ws[1], .slice (some ⟨g6, 0, none⟩) 0 cap6] ?_ rfl (new_cells2 w6 _ _ _ rfl) stm_oneS (by decide) (by unfold maxLen; omega) (by omega) (Nat.le_trans hBw hbW2.size) _ rfl ?_; rfl; rfl; rfl; rfl
                intro gn cap w8 hown8 hgr8 hloc8 hlt8
                obtain ⟨HGn, HKn, hcf⟩ := HG.out.stem hbW2 hBw ⟨ws[1], ws.drop 2⟩ (.slice (some ⟨g6, 0, none⟩) 0 cap6) g6 (HSz.out _ (List.getElem_mem _)) gn cap (hu6.below ((Below.refl _ _).alloc (Nat.le_refl _) _)) ⟨by omega, by simp; omega⟩ (fun j hj => by have := (HG.out.low j hj).2; omega) ⟨fun e => by have := (World.ownsRow.lt HG.out.aff _ e).2; omega, fun e => by have := (World.ownsRow.lt HG.out.stm _ e).2; omega⟩ hown8 hgr8 hloc8
                have hfr8 : w8.heap[b0]? = w.heap[b0]? := (hgr8.block b0 (Nat.lt_of_lt_of_le hb0lt hbW2.size) hb0n).trans (hbW2.block b0 hb0lt)
                refine hK9.out _ _ (cell_of_sameR hfr8 hc1) (fun hHeld6 => ?_)
                clear hK9 K9
                try simp only [Act.put, List.getElem_toArray, List.getElem_cons_succ, List.getElem_cons_zero, List.setIfInBounds_toArray, List.set_cons_zero, List.set_cons_succ]
                refine wpAnyH_take (i := 15) (v := ?v53) rfl (by kernel_rfl) (by kernel_rfl) (by kernel_rfl) (fun _ _ _ h => h) (Or.inl ⟨by kernel_rfl, ?hy53⟩) (by assumption) ?_
                case hy53 => (intro w9 hS9; (try dsimp only at hS9); go_simp; (try with_reducible rfl))
                try simp only [Act.put, List.getElem_toArray, List.getElem_cons_succ, List.getElem_cons_zero, List.setIfInBounds_toArray, List.set_cons_zero, List.set_cons_succ]
                refine wpAnyH_take (i := 16) (v := ?v54) rfl (by kernel_rfl) (by kernel_rfl) (by kernel_rfl) (fun _ _ _ h => h) (Or.inl ⟨by kernel_rfl, ?hy54⟩) (by assumption) ?_
                case hy54 => (intro w9 hS9; (try dsimp only at hS9); go_simp; (try with_reducible rfl))
                try simp only [Act.put, List.getElem_toArray, List.getElem_cons_succ, List.getElem_cons_zero, List.setIfInBounds_toArray, List.set_cons_zero, List.set_cons_succ]
                refine wpAnyH_ready (rs := [17]) (by kernel_rfl) (by simp) ?_
                refine AllReadyH.cons rfl (fun K9 hK9 => ?_) AllReadyH.nil
                rw [if_pos (by rfl)]
                go_simp
                refine hK9.out _ _ (cell_setR (Ne.symm hb0gb) (cell_of_sameR hfr8 hc1)) (fun hHeld7 => ?_)
                clear hK9 K9
                try simp only [Act.put, List.getElem_toArray, List.getElem_cons_succ, List.getElem_cons_zero, List.setIfInBounds_toArray, List.set_cons_zero, List.set_cons_succ]
                refine wpAnyH_done (by kernel_rfl) ?_ _
                go_wp2
                go_ret
                exact LineQ.yes HS.out HGn HKn
        · go_enter Tryz.func33, Tryz.ntmps33
          go_upto_region 5 with fail
          refine wp_region_held_drew (S := (fun w' => w'.cell? ⟨b0, o0 + 1, none⟩ = some (.string ws[1]))) (by kernel_rfl) ?_ (fun hHeld => ?_)
          · exact hc1
          refine wpAnyH_take (i := 0) (v := ?v55) rfl (by kernel_rfl) (by kernel_rfl) (by kernel_rfl) (fun _ _ _ h => h) (Or.inl ⟨by kernel_rfl, ?hy55⟩) (by assumption) ?_
          case hy55 => (intro w9 hS9; (try dsimp only at hS9); go_simp; (try with_reducible rfl))
          try simp only [Act.put, List.getElem_toArray, List.getElem_cons_succ, List.getElem_cons_zero, List.setIfInBounds_toArray, List.set_cons_zero, List.set_cons_succ]
          refine wpAnyH_take (i := 1) (v := ?v56) rfl (by kernel_rfl) (by kernel_rfl) (by kernel_rfl) (fun _ _ _ h => h) (Or.inl ⟨by kernel_rfl, ?hy56⟩) (by assumption) ?_
          case hy56 => (intro w9 hS9; (try dsimp only at hS9); go_simp; (try with_reducible rfl))
          try simp only [Act.put, List.getElem_toArray, List.getElem_cons_succ, List.getElem_cons_zero, List.setIfInBounds_toArray, List.set_cons_zero, List.set_cons_succ]
          refine wpAnyH_take (i := 2) (v := ?v57) rfl (by kernel_rfl) (by kernel_rfl) (by kernel_rfl) (fun _ _ _ h => h) (Or.inl ⟨by kernel_rfl, ?hy57⟩) (by assumption) ?_
          case hy57 => (intro w9 hS9; (try dsimp only at hS9); go_simp; (try with_reducible rfl))
          try simp only [Act.put, List.getElem_toArray, List.getElem_cons_succ, List.getElem_cons_zero, List.setIfInBounds_toArray, List.set_cons_zero, List.set_cons_succ]
          refine wpAnyH_take (i := 3) (v := ?v58) rfl (by kernel_rfl) (by kernel_rfl) (by kernel_rfl) (fun _ _ _ h => h) (Or.inl ⟨by kernel_rfl, ?hy58⟩) (by assumption) ?_
          case hy58 => (intro w9 hS9; (try dsimp only at hS9); go_simp; (try with_reducible rfl))
          try simp only [Act.put, List.getElem_toArray, List.getElem_cons_succ, List.getElem_cons_zero, List.setIfInBounds_toArray, List.set_cons_zero, List.set_cons_succ]
          refine wpAnyH_take (i := 5) (v := ?v59) rfl (by kernel_rfl) (by kernel_rfl) (by kernel_rfl) (fun _ _ _ h => h) (Or.inl ⟨by kernel_rfl, ?hy59⟩) (by assumption) ?_
          case hy59 => (intro w9 hS9; (try dsimp only at hS9); go_simp; (try with_reducible rfl))
          try simp only [Act.put, List.getElem_toArray, List.getElem_cons_succ, List.getElem_cons_zero, List.setIfInBounds_toArray, List.set_cons_zero, List.set_cons_succ]
          refine wpAnyH_take (i := 6) (v := ?v60) rfl (by kernel_rfl) (by kernel_rfl) (by kernel_rfl) (fun _ _ _ h => h) (Or.inl ⟨by kernel_rfl, ?hy60⟩) (by assumption) ?_
          case hy60 => (intro w9 hS9; (try dsimp only at hS9); go_simp; (try with_reducible rfl))
          try simp only [Act.put, List.getElem_toArray, List.getElem_cons_succ, List.getElem_cons_zero, List.setIfInBounds_toArray, List.set_cons_zero, List.set_cons_succ]
          refine wpAnyH_take (i := 7) (v := ?v61) rfl (by kernel_rfl) (by kernel_rfl) (by kernel_rfl) (fun _ _ _ h => h) (Or.inl ⟨by kernel_rfl, ?hy61⟩) (by assumption) ?_
          case hy61 => (intro w9 hS9; (try dsimp only at hS9); go_simp; (try with_reducible rfl))
          try simp only [Act.put, List.getElem_toArray, List.getElem_cons_succ, List.getElem_cons_zero, List.setIfInBounds_toArray, List.set_cons_zero, List.set_cons_succ]
          refine wpAnyH_take (i := 9) (v := ?v62) rfl (by kernel_rfl) (by kernel_rfl) (by kernel_rfl) (fun _ _ _ h => h) (Or.inl ⟨by kernel_rfl, ?hy62⟩) (by assumption) ?_
          case hy62 => (intro w9 hS9; (try dsimp only at hS9); go_simp; (try with_reducible rfl))
          try simp only [Act.put, List.getElem_toArray, List.getElem_cons_succ, List.getElem_cons_zero, List.setIfInBounds_toArray, List.set_cons_zero, List.set_cons_succ]
          refine wpAnyH_take (i := 10) (v := ?v63) rfl (by kernel_rfl) (by kernel_rfl) (by kernel_rfl) (fun _ _ _ h => h) (Or.inl ⟨by kernel_rfl, ?hy63⟩) (by assumption) ?_
          case hy63 => (intro w9 hS9; (try dsimp only at hS9); go_simp; (try with_reducible rfl))
          try simp only [Act.put, List.getElem_toArray, List.getElem_cons_succ, List.getElem_cons_zero, List.setIfInBounds_toArray, List.set_cons_zero, List.set_cons_succ]
          refine wpAnyH_ready (rs := [4, 8]) (by kernel_rfl) (by simp) ?_
          refine AllReadyH.cons rfl (fun K9 hK9 => ?_) (AllReadyH.cons rfl (fun K9 hK9 => ?_) (AllReadyH.nil))
          · rw [if_pos (by rfl)]
            go_simp
            refine hK9.out _ _ (by assumption) (fun hHeld2 => ?_)
            clear hK9 K9
            try simp only [Act.put, List.getElem_toArray, List.getElem_cons_succ, List.getElem_cons_zero, List.setIfInBounds_toArray, List.set_cons_zero, List.set_cons_succ]
            refine wpAnyH_ready (rs := [8]) (by kernel_rfl) (by simp) ?_
            refine AllReadyH.cons rfl (fun K9 hK9 => ?_) AllReadyH.nil
            rw [if_pos (by rfl)]
            go_simp
            refine hK9.out _ _ (cell_alloc _ hc1) (fun hHeld3 => ?_)
            clear hK9 K9
            try simp only [Act.put, List.getElem_toArray, List.getElem_cons_succ, List.getElem_cons_zero, List.setIfInBounds_toArray, List.set_cons_zero, List.set_cons_succ]
            refine wpAnyH_ready (rs := [11]) (by kernel_rfl) (by simp) ?_
            refine AllReadyH.cons rfl (fun K9 hK9 => ?_) AllReadyH.nil
            refine step_lst ?_ (.tmp 98) (.tmp 100) ?_ w.heap.size w.heap.size 0 0 [] rfl ?_ (own_emptyS w) b0 (o0 + 2) (ws.length - 2) (c - 2) (ws.drop 2) (by have := HDL.out; omega) ?_ HCD.out (by show 0 + _ ≤ _; rw [HDL.out]; omega) (one_belowS w _).size (ws.length - 2) (by have := HDL.out; show _ = 0 + _; omega) (ws.drop 2) rfl ?_; rfl; rfl; rfl; rfl
            intro g6 cap6 w6 hown6 hgr6 hloc6
            have hbW6 : Below w.heap.size w w6 := (one_belowS w _).grown hgr6 (one_belowS w _).size (fun k hk => by have := Option.some.inj hk; omega)
            have hg6 : w.heap.size ≤ g6 := by rcases hloc6 with h | h; omega; exact Nat.le_trans (one_belowS w _).size h
            have hw16 := cell_below hbW6 hw1
            have hc16 := cell_below hbW6 hc1
            have hw17 := cell_alloc (.cells #[.string ws[1], .slice (some ⟨g6, 0, none⟩) (ws.length - 2) cap6] 59) hw16
            have hg6l : g6 < w6.heap.size := (World.ownsRow.lt hown6 g6 rfl).2
            have hu6 : StrsW w6 g6 (g6 + 1) (.slice (some ⟨g6, 0, none⟩) (ws.length - 2) cap6) (ws.drop 2) := own_strsS hown6 (fun y hy => HSz.out y (List.mem_of_mem_drop hy))
            refine hK9.out _ _ (hc16) (fun hHeld4 => ?_)
            clear hK9 K9
            try simp only [Act.put, List.getElem_toArray, List.getElem_cons_succ, List.getElem_cons_zero, List.setIfInBounds_toArray, List.set_cons_zero, List.set_cons_succ]
            refine wpAnyH_take (i := 12) (v := ?v64) rfl (by kernel_rfl) (by kernel_rfl) (by kernel_rfl) (fun _ _ _ h => h) (Or.inl ⟨by kernel_rfl, ?hy64⟩) (by assumption) ?_
            case hy64 => (intro w9 hS9; (try dsimp only at hS9); go_simp; (try with_reducible rfl))
            try simp only [Act.put, List.getElem_toArray, List.getElem_cons_succ, List.getElem_cons_zero, List.setIfInBounds_toArray, List.set_cons_zero, List.set_cons_succ]
            refine wpAnyH_ready (rs := [13]) (by kernel_rfl) (by simp) ?_
            refine AllReadyH.cons rfl (fun K9 hK9 => ?_) AllReadyH.nil
            rw [if_pos (by rfl)]
            go_simp
            refine hK9.out _ _ (cell_alloc _ hc16) (fun hHeld5 => ?_)
            clear hK9 K9
            try simp only [Act.put, List.getElem_toArray, List.getElem_cons_succ, List.getElem_cons_zero, List.setIfInBounds_toArray, List.set_cons_zero, List.set_cons_succ]
            refine wpAnyH_ready (rs := [14]) (by kernel_rfl) (by simp) ?_
            refine AllReadyH.cons rfl (fun K9 hK9 => ?_) AllReadyH.nil
            have hbW2 : Below w.heap.size w (w6.alloc (.cells #[.string ws[1], .slice (some ⟨g6, 0, none⟩) (ws.length - 2) cap6] 59)) := hbW6.trans (((Below.refl _ _).alloc (Nat.le_refl _) _).mono hbW6.size)
            refine step_append_lies _ ?_ (.tmp 94) (.tmp 103) 25 ?_ B 59 iS (.agg #[.string ⟨#[]⟩, .slice none 0 0]) 2 40 Tryz.underlying25 hi hzA0 hzA1 hzA2 rfl (by decide) (.slice a2 g.stems.length c2) g.stems.length ((g.stems.zip us).flatMap stemL) ?_ (own_below HG.out.stm hbW2) ⟨w6.heap.size, 0, none⟩ 1 1 [.string ws[1], .slice (some ⟨g6, 0, none⟩) (ws.length - 2) cap6] ?_ rfl (new_cells2 w6 _ _ _ rfl) stm_oneS (by decide) (by unfold maxLen; omega) (by omega) (Nat.le_trans hBw hbW2.size) _ rfl ?_; rfl; rfl; rfl; rfl
            intro gn cap w8 hown8 hgr8 hloc8 hlt8
            obtain ⟨HGn, HKn, hcf⟩ := HG.out.stem hbW2 hBw ⟨ws[1], ws.drop 2⟩ (.slice (some ⟨g6, 0, none⟩) (ws.length - 2) cap6) g6 (HSz.out _ (List.getElem_mem _)) gn cap (hu6.below ((Below.refl _ _).alloc (Nat.le_refl _) _)) ⟨by omega, by simp; omega⟩ (fun j hj => by have := (HG.out.low j hj).2; omega) ⟨fun e => by have := (World.ownsRow.lt HG.out.aff _ e).2; omega, fun e => by have := (World.ownsRow.lt HG.out.stm _ e).2; omega⟩ hown8 hgr8 hloc8
            have hfr8 : w8.heap[b0]? = w.heap[b0]? := (hgr8.block b0 (Nat.lt_of_lt_of_le hb0lt hbW2.size) hb0n).trans (hbW2.block b0 hb0lt)
            refine hK9.out _ _ (cell_of_sameR hfr8 hc1) (fun hHeld6 => ?_)
            clear hK9 K9
            try simp only [Act.put, List.getElem_toArray, List.getElem_cons_succ, List.getElem_cons_zero, List.setIfInBounds_toArray, List.set_cons_zero, List.set_cons_succ]
            refine wpAnyH_take (i := 15) (v := ?v65) rfl (by kernel_rfl) (by kernel_rfl) (by kernel_rfl) (fun _ _ _ h => h) (Or.inl ⟨by kernel_rfl, ?hy65⟩) (by assumption) ?_
            case hy65 => (intro w9 hS9; (try dsimp only at hS9); go_simp; (try with_reducible rfl))
            try simp only [Act.put, List.getElem_toArray, List.getElem_cons_succ, List.getElem_cons_zero, List.setIfInBounds_toArray, List.set_cons_zero, List.set_cons_succ]
            refine wpAnyH_take (i := 16) (v := ?v66) rfl (by kernel_rfl) (by kernel_rfl) (by kernel_rfl) (fun _ _ _ h => h) (Or.inl ⟨by kernel_rfl, ?hy66⟩) (by assumption) ?_
            case hy66 => (intro w9 hS9; (try dsimp only at hS9); go_simp; (try with_reducible rfl))
            try simp only [Act.put, List.getElem_toArray, List.getElem_cons_succ, List.getElem_cons_zero, List.setIfInBounds_toArray, List.set_cons_zero, List.set_cons_succ]
            refine wpAnyH_ready (rs := [17]) (by kernel_rfl) (by simp) ?_
            refine AllReadyH.cons rfl (fun K9 hK9 => ?_) AllReadyH.nil
            rw [if_pos (by rfl)]
            go_simp
            refine hK9.out _ _ (cell_setR (Ne.symm hb0gb) (cell_of_sameR hfr8 hc1)) (fun hHeld7 => ?_)
            clear hK9 K9
            try simp only [Act.put, List.getElem_toArray, List.getElem_cons_succ, List.getElem_cons_zero, List.setIfInBounds_toArray, List.set_cons_zero, List.set_cons_succ]
            refine wpAnyH_done (by kernel_rfl) ?_ _
            go_wp2
            go_ret
            exact LineQ.yes HS.out HGn HKn
          · rw [if_pos (by rfl)]
            go_simp
            refine hK9.out _ _ (cell_alloc _ hc1) (fun hHeld2 => ?_)
            clear hK9 K9
            try simp only [Act.put, List.getElem_toArray, List.getElem_cons_succ, List.getElem_cons_zero, List.setIfInBounds_toArray, List.set_cons_zero, List.set_cons_succ]
            refine wpAnyH_ready (rs := [4, 11]) (by kernel_rfl) (by simp) ?_
            refine AllReadyH.cons rfl (fun K9 hK9 => ?_) (AllReadyH.cons rfl (fun K9 hK9 => ?_) (AllReadyH.nil))
            · rw [if_pos (by rfl)]
              go_simp
              refine hK9.out _ _ (by assumption) (fun hHeld3 => ?_)
              clear hK9 K9
              try simp only [Act.put, List.getElem_toArray, List.getElem_cons_succ, List.getElem_cons_zero, List.setIfInBounds_toArray, List.set_cons_zero, List.set_cons_succ]
              refine wpAnyH_ready (rs := [11]) (by kernel_rfl) (by simp) ?_
              refine AllReadyH.cons rfl (fun K9 hK9 => ?_) AllReadyH.nil
              refine step_lst ?_ (.tmp 98) (.tmp 100) ?_ w.heap.size w.heap.size 0 0 [] rfl ?_ (own_emptyS w) b0 (o0 + 2) (ws.length - 2) (c - 2) (ws.drop 2) (by have := HDL.out; omega) ?_ HCD.out (by show 0 + _ ≤ _; rw [HDL.out]; omega) (one_belowS w _).size (ws.length - 2) (by have := HDL.out; show _ = 0 + _; omega) (ws.drop 2) rfl ?_; rfl; rfl; rfl; rfl
              intro g6 cap6 w6 hown6 hgr6 hloc6
              have hbW6 : Below w.heap.size w w6 := (one_belowS w _).grown hgr6 (one_belowS w _).size (fun k hk => by have := Option.some.inj hk; omega)
              have hg6 : w.heap.size ≤ g6 := by rcases hloc6 with h | h; omega; exact Nat.le_trans (one_belowS w _).size h
              have hw16 := cell_below hbW6 hw1
              have hc16 := cell_below hbW6 hc1
              have hw17 := cell_alloc (.cells #[.string ws[1], .slice (some ⟨g6, 0, none⟩) (ws.length - 2) cap6] 59) hw16
              have hg6l : g6 < w6.heap.size := (World.ownsRow.lt hown6 g6 rfl).2
              have hu6 : StrsW w6 g6 (g6 + 1) (.slice (some ⟨g6, 0, none⟩) (ws.length - 2) cap6) (ws.drop 2) := own_strsS hown6 (fun y hy => HSz.out y (List.mem_of_mem_drop hy))
              refine hK9.out _ _ (hc16) (fun hHeld4 => ?_)
              clear hK9 K9
              try simp only [Act.put, List.getElem_toArray, List.getElem_cons_succ, List.getElem_cons_zero, List.setIfInBounds_toArray, List.set_cons_zero, List.set_cons_succ]
              refine wpAnyH_take (i := 12) (v := ?v67) rfl (by kernel_rfl) (by kernel_rfl) (by kernel_rfl) (fun _ _ _ h => h) (Or.inl ⟨by kernel_rfl, ?hy67⟩) (by assumption) ?_
              case hy67 => (intro w9 hS9; (try dsimp only at hS9); go_simp; (try with_reducible rfl))
              try simp only [Act.put, List.getElem_toArray, List.getElem_cons_succ, List.getElem_cons_zero, List.setIfInBounds_toArray, List.set_cons_zero, List.set_cons_succ]
              refine wpAnyH_ready (rs := [13]) (by kernel_rfl) (by simp) ?_
              refine AllReadyH.cons rfl (fun K9 hK9 => ?_) AllReadyH.nil
              rw [if_pos (by rfl)]
              go_simp
              refine hK9.out _ _ (cell_alloc _ hc16) (fun hHeld5 => ?_)
              clear hK9 K9
              try simp only [Act.put, List.getElem_toArray, List.getElem_cons_succ, List.getElem_cons_zero, List.setIfInBounds_toArray, List.set_cons_zero, List.set_cons_succ]
              refine wpAnyH_ready (rs := [14]) (by kernel_rfl) (by simp) ?_
              refine AllReadyH.cons rfl (fun K9 hK9 => ?_) AllReadyH.nil
              have hbW2 : Below w.heap.size w (w6.alloc (.cells #[.string ws[1], .slice (some ⟨g6, 0, none⟩) (ws.length - 2) cap6] 59)) := hbW6.trans (((Below.refl _ _).alloc (Nat.le_refl _) _).mono hbW6.size)
              refine step_append_lies _ ?_ (.tmp 94) (.tmp 103) 25 ?_ B 59 iS (.agg #[.string ⟨#[]⟩, .slice none 0 0]) 2 40 Tryz.underlying25 hi hzA0 hzA1 hzA2 rfl (by decide) (.slice a2 g.stems.length c2) g.stems.length ((g.stems.zip us).flatMap stemL) ?_ (own_below HG.out.stm hbW2) ⟨w6.heap.size, 0, none⟩ 1 1 [.string ws[1], .slice (some ⟨g6, 0, none⟩) (ws.length - 2) cap6] ?_ rfl (new_cells2 w6 _ _ _ rfl) stm_oneS (by decide) (by unfold maxLen; omega) (by omega) (Nat.le_trans hBw hbW2.size) _ rfl ?_; rfl; rfl; rfl; rfl
              intro gn cap w8 hown8 hgr8 hloc8 hlt8
              obtain ⟨HGn, HKn, hcf⟩ := HG.out.stem hbW2 hBw ⟨ws[1], ws.drop 2⟩ (.slice (some ⟨g6, 0, none⟩) (ws.length - 2) cap6) g6 (HSz.out _ (List.getElem_mem _)) gn cap (hu6.below ((Below.refl _ _).alloc (Nat.le_refl _) _)) ⟨by omega, by simp; omega⟩ (fun j hj => by have := (HG.out.low j hj).2; omega) ⟨fun e => by have := (World.ownsRow.lt HG.out.aff _ e).2; omega, fun e => by have := (World.ownsRow.lt HG.out.stm _ e).2; omega⟩ hown8 hgr8 hloc8
              have hfr8 : w8.heap[b0]? = w.heap[b0]? := (hgr8.block b0 (Nat.lt_of_lt_of_le hb0lt hbW2.size) hb0n).trans (hbW2.block b0 hb0lt)
              refine hK9.out _ _ (cell_of_sameR hfr8 hc1) (fun hHeld6 => ?_)
              clear hK9 K9
              try simp only [Act.put, List.getElem_toArray, List.getElem_cons_succ, List.getElem_cons_zero, List.setIfInBounds_toArray, List.set_cons_zero, List.set_cons_succ]
              refine wpAnyH_take (i := 15) (v := ?v68) rfl (by kernel_rfl) (by kernel_rfl) (by kernel_rfl) (fun _ _ _ h => h) (Or.inl ⟨by kernel_rfl, ?hy68⟩) (by assumption) ?_
              case hy68 => (intro w9 hS9; (try dsimp only at hS9); go_simp; (try with_reducible rfl))
              try simp only [Act.put, List.getElem_toArray, List.getElem_cons_succ, List.getElem_cons_zero, List.setIfInBounds_toArray, List.set_cons_zero, List.set_cons_succ]
              refine wpAnyH_take (i := 16) (v := ?v69) rfl (by kernel_rfl) (by kernel_rfl) (by kernel_rfl) (fun _ _ _ h => h) (Or.inl ⟨by kernel_rfl, ?hy69⟩) (by assumption) ?_
              case hy69 => (intro w9 hS9; (try dsimp only at hS9); go_simp; (try with_reducible rfl))
              try simp only [Act.put, List.getElem_toArray, List.getElem_cons_succ, List.getElem_cons_zero, List.setIfInBounds_toArray, List.set_cons_zero, List.set_cons_succ]
              refine wpAnyH_ready (rs := [17]) (by kernel_rfl) (by simp) ?_
              refine AllReadyH.cons rfl (fun K9 hK9 => ?_) AllReadyH.nil
              rw [if_pos (by rfl)]
              go_simp
              refine hK9.out _ _ (cell_setR (Ne.symm hb0gb) (cell_of_sameR hfr8 hc1)) (fun hHeld7 => ?_)
              clear hK9 K9
              try simp only [Act.put, List.getElem_toArray, List.getElem_cons_succ, List.getElem_cons_zero, List.setIfInBounds_toArray, List.set_cons_zero, List.set_cons_succ]
              refine wpAnyH_done (by kernel_rfl) ?_ _
              go_wp2
              go_ret
              exact LineQ.yes HS.out HGn HKn
            · refine step_lst ?_ (.tmp 98) (.tmp 100) ?_ w.heap.size w.heap.size 0 0 [] rfl ?_ (own_emptyS w) b0 (o0 + 2) (ws.length - 2) (c - 2) (ws.drop 2) (by have := HDL.out; omega) ?_ HCD.out (by show 0 + _ ≤ _; rw [HDL.out]; omega) (one_belowS w _).size (ws.length - 2) (by have := HDL.out; show _ = 0 + _; omega) (ws.drop 2) rfl ?_; rfl; rfl; rfl; rfl
              intro g6 cap6 w6 hown6 hgr6 hloc6
              have hbW6 : Below w.heap.size w w6 := (one_belowS w _).grown hgr6 (one_belowS w _).size (fun k hk => by have := Option.some.inj hk; omega)
              have hg6 : w.heap.size ≤ g6 := by rcases hloc6 with h | h; omega; exact Nat.le_trans (one_belowS w _).size h
              have hw16 := cell_below hbW6 hw1
              have hc16 := cell_below hbW6 hc1
              have hw17 := cell_alloc (.cells #[.string ws[1], .slice (some ⟨g6, 0, none⟩) (ws.length - 2) cap6] 59) hw16
              have hg6l : g6 < w6.heap.size := (World.ownsRow.lt hown6 g6 rfl).2
              have hu6 : StrsW w6 g6 (g6 + 1) (.slice (some ⟨g6, 0, none⟩) (ws.length - 2) cap6) (ws.drop 2) := own_strsS hown6 (fun y hy => HSz.out y (List.mem_of_mem_drop hy))
              refine hK9.out _ _ (hc16) (fun hHeld3 => ?_)
              clear hK9 K9
              try simp only [Act.put, List.getElem_toArray, List.getElem_cons_succ, List.getElem_cons_zero, List.setIfInBounds_toArray, List.set_cons_zero, List.set_cons_succ]
              refine wpAnyH_take (i := 12) (v := ?v70) rfl (by kernel_rfl) (by kernel_rfl) (by kernel_rfl) (fun _ _ _ h => h) (Or.inl ⟨by kernel_rfl, ?hy70⟩) (by assumption) ?_
              case hy70 => (intro w9 hS9; (try dsimp only at hS9); go_simp; (try with_reducible rfl))
              try simp only [Act.put, List.getElem_toArray, List.getElem_cons_succ, List.getElem_cons_zero, List.setIfInBounds_toArray, List.set_cons_zero, List.set_cons_succ]
              refine wpAnyH_ready (rs := [4, 13]) (by kernel_rfl) (by simp) ?_
              refine AllReadyH.cons rfl (fun K9 hK9 => ?_) (AllReadyH.cons rfl (fun K9 hK9 => ?_) (AllReadyH.nil))
              · rw [if_pos (by rfl)]
                go_simp
                refine hK9.out _ _ (by assumption) (fun hHeld4 => ?_)
                clear hK9 K9
                try simp only [Act.put, List.getElem_toArray, List.getElem_cons_succ, List.getElem_cons_zero, List.setIfInBounds_toArray, List.set_cons_zero, List.set_cons_succ]
                refine wpAnyH_ready (rs := [13]) (by kernel_rfl) (by simp) ?_
                refine AllReadyH.cons rfl (fun K9 hK9 => ?_) AllReadyH.nil
                rw [if_pos (by rfl)]
                go_simp
                refine hK9.out _ _ (cell_alloc _ hc16) (fun hHeld5 => ?_)
                clear hK9 K9
                try simp only [Act.put, List.getElem_toArray, List.getElem_cons_succ, List.getElem_cons_zero, List.setIfInBounds_toArray, List.set_cons_zero, List.set_cons_succ]
                refine wpAnyH_ready (rs := [14]) (by kernel_rfl) (by simp) ?_
                refine AllReadyH.cons rfl (fun K9 hK9 => ?_) AllReadyH.nil
                have hbW2 : Below w.heap.size w (w6.alloc (.cells #[.string ws[1], .slice (some ⟨g6, 0, none⟩) (ws.length - 2) cap6] 59)) := hbW6.trans (((Below.refl _ _).alloc (Nat.le_refl _) _).mono hbW6.size)
                refine step_append_lies _ ?_ (.tmp 94) (.tmp 103) 25 ?_ B 59 iS (.agg #[.string ⟨#[]⟩, .slice none 0 0]) 2 40 Tryz.underlying25 hi hzA0 hzA1 hzA2 rfl (by decide) (.slice a2 g.stems.length c2) g.stems.length ((g.stems.zip us).flatMap stemL) ?_ (own_below HG.out.stm hbW2) ⟨w6.heap.size, 0, none⟩ 1 1 [.string ws[1], .slice (some ⟨g6, 0, none⟩) (ws.length - 2) cap6] ?_ rfl (new_cells2 w6 _ _ _ rfl) stm_oneS (by decide) (by unfold maxLen; omega) (by omega) (Nat.le_trans hBw hbW2.size) _ rfl ?_; rfl; rfl; rfl; rfl
                intro gn cap w8 hown8 hgr8 hloc8 hlt8
                obtain ⟨HGn, HKn, hcf⟩ := HG.out.stem hbW2 hBw ⟨ws[1], ws.drop 2⟩ (.slice (some ⟨g6, 0, none⟩) (ws.length - 2) cap6) g6 (HSz.out _ (List.getElem_mem _)) gn cap (hu6.below ((Below.refl _ _).alloc (Nat.le_refl _) _)) ⟨by omega, by simp; omega⟩ (fun j hj => by have := (HG.out.low j hj).2; omega) ⟨fun e => by have := (World.ownsRow.lt HG.out.aff _ e).2; omega, fun e => by have := (World.ownsRow.lt HG.out.stm _ e).2; omega⟩ hown8 hgr8 hloc8
                have hfr8 : w8.heap[b0]? = w.heap[b0]? := (hgr8.block b0 (Nat.lt_of_lt_of_le hb0lt hbW2.size) hb0n).trans (hbW2.block b0 hb0lt)
                refine hK9.out _ _ (cell_of_sameR hfr8 hc1) (fun hHeld6 => ?_)
                clear hK9 K9
                try simp only [Act.put, List.getElem_toArray, List.getElem_cons_succ, List.getElem_cons_zero, List.setIfInBounds_toArray, List.set_cons_zero, List.set_cons_succ]
                refine wpAnyH_take (i := 15) (v := ?v71) rfl (by kernel_rfl) (by kernel_rfl) (by kernel_rfl) (fun _ _ _ h => h) (Or.inl ⟨by kernel_rfl, ?hy71⟩) (by assumption) ?_
                case hy71 => (intro w9 hS9; (try dsimp only at hS9); go_simp; (try with_reducible rfl))
                try simp only [Act.put, List.getElem_toArray, List.getElem_cons_succ, List.getElem_cons_zero, List.setIfInBounds_toArray, List.set_cons_zero, List.set_cons_succ]
                refine wpAnyH_take (i := 16) (v := ?v72) rfl (by kernel_rfl) (by kernel_rfl) (by kernel_rfl) (fun _ _ _ h => h) (Or.inl ⟨by kernel_rfl, ?hy72⟩) (by assumption) ?_
                case hy72 => (intro w9 hS9; (try dsimp only at hS9); go_simp; (try with_reducible rfl))
                try simp only [Act.put, List.getElem_toArray, List.getElem_cons_succ, List.getElem_cons_zero, List.setIfInBounds_toArray, List.set_cons_zero, List.set_cons_succ]
                refine wpAnyH_ready (rs := [17]) (by kernel_rfl) (by simp) ?_
                refine AllReadyH.cons rfl (fun K9 hK9 => ?_) AllReadyH.nil
                rw [if_pos (by rfl)]
                go_simp
                refine hK9.out _ _ (cell_setR (Ne.symm hb0gb) (cell_of_sameR hfr8 hc1)) (fun hHeld7 => ?_)
                clear hK9 K9
                try simp only [Act.put, List.getElem_toArray, List.getElem_cons_succ, List.getElem_cons_zero, List.setIfInBounds_toArray, List.set_cons_zero, List.set_cons_succ]
                refine wpAnyH_done (by kernel_rfl) ?_ _
                go_wp2
                go_ret
                exact LineQ.yes HS.out HGn HKn
              · rw [if_pos (by rfl)]
                go_simp
                refine hK9.out _ _ (cell_alloc _ hc16) (fun hHeld4 => ?_)
                clear hK9 K9
                try simp only [Act.put, List.getElem_toArray, List.getElem_cons_succ, List.getElem_cons_zero, List.setIfInBounds_toArray, List.set_cons_zero, List.set_cons_succ]
                refine wpAnyH_ready (rs := [4]) (by kernel_rfl) (by simp) ?_
                refine AllReadyH.cons rfl (fun K9 hK9 => ?_) AllReadyH.nil
                rw [if_pos (by rfl)]
                go_simp
                refine hK9.out _ _ (by assumption) (fun hHeld5 => ?_)
                clear hK9 K9
                try simp only [Act.put, List.getElem_toArray, List.getElem_cons_succ, List.getElem_cons_zero, List.setIfInBounds_toArray, List.set_cons_zero, List.set_cons_succ]
                refine wpAnyH_ready (rs := [14]) (by kernel_rfl) (by simp) ?_
                refine AllReadyH.cons rfl (fun K9 hK9 => ?_) AllReadyH.nil
                have hbW2 : Below w.heap.size w (w6.alloc (.cells #[.string ws[1], .slice (some ⟨g6, 0, none⟩) (ws.length - 2) cap6] 59)) := hbW6.trans (((Below.refl _ _).alloc (Nat.le_refl _) _).mono hbW6.size)
                refine step_append_lies _ ?_ (.tmp 94) (.tmp 103) 25 ?_ B 59 iS (.agg #[.string ⟨#[]⟩, .slice none 0 0]) 2 40 Tryz.underlying25 hi hzA0 hzA1 hzA2 rfl (by decide) (.slice a2 g.stems.length c2) g.stems.length ((g.stems.zip us).flatMap stemL) ?_ (own_below HG.out.stm hbW2) ⟨w6.heap.size, 0, none⟩ 1 1 [.string ws[1], .slice (some ⟨g6, 0, none⟩) (ws.length - 2) cap6] ?_ rfl (new_cells2 w6 _ _ _ rfl) stm_oneS (by decide) (by unfold maxLen; omega) (by omega) (Nat.le_trans hBw hbW2.size) _ rfl ?_; rfl; rfl; rfl; rfl
                intro gn cap w8 hown8 hgr8 hloc8 hlt8
                obtain ⟨HGn, HKn, hcf⟩ := HG.out.stem hbW2 hBw ⟨ws[1], ws.drop 2⟩ (.slice (some ⟨g6, 0, none⟩) (ws.length - 2) cap6) g6 (HSz.out _ (List.getElem_mem _)) gn cap (hu6.below ((Below.refl _ _).alloc (Nat.le_refl _) _)) ⟨by omega, by simp; omega⟩ (fun j hj => by have := (HG.out.low j hj).2; omega) ⟨fun e => by have := (World.ownsRow.lt HG.out.aff _ e).2; omega, fun e => by have := (World.ownsRow.lt HG.out.stm _ e).2; omega⟩ hown8 hgr8 hloc8
                have hfr8 : w8.heap[b0]? = w.heap[b0]? := (hgr8.block b0 (Nat.lt_of_lt_of_le hb0lt hbW2.size) hb0n).trans (hbW2.block b0 hb0lt)
                refine hK9.out _ _ (cell_of_sameR hfr8 hc1) (fun hHeld6 => ?_)
                clear hK9 K9
                try simp only [Act.put, List.getElem_toArray, List.getElem_cons_succ, List.getElem_cons_zero, List.setIfInBounds_toArray, List.set_cons_zero, List.set_cons_succ]
                refine wpAnyH_take (i := 15) (v := ?v73) rfl (by kernel_rfl) (by kernel_rfl) (by kernel_rfl) (fun _ _ _ h => h) (Or.inl ⟨by kernel_rfl, ?hy73⟩) (by assumption) ?_
                case hy73 => (intro w9 hS9; (try dsimp only at hS9); go_simp; (try with_reducible rfl))
                try simp only [Act.put, List.getElem_toArray, List.getElem_cons_succ, List.getElem_cons_zero, List.setIfInBounds_toArray, List.set_cons_zero, List.set_cons_succ]
                refine wpAnyH_take (i := 16) (v := ?v74) rfl (by kernel_rfl) (by kernel_rfl) (by kernel_rfl) (fun _ _ _ h => h) (Or.inl ⟨by kernel_rfl, ?hy74⟩) (by assumption) ?_
                case hy74 => (intro w9 hS9; (try dsimp only at hS9); go_simp; (try with_reducible rfl))
                try simp only [Act.put, List.getElem_toArray, List.getElem_cons_succ, List.getElem_cons_zero, List.setIfInBounds_toArray, List.set_cons_zero, List.set_cons_succ]
                refine wpAnyH_ready (rs := [17]) (by kernel_rfl) (by simp) ?_
                refine AllReadyH.cons rfl (fun K9 hK9 => ?_) AllReadyH.nil
                rw [if_pos (by rfl)]
                go_simp
                refine hK9.out _ _ (cell_setR (Ne.symm hb0gb) (cell_of_sameR hfr8 hc1)) (fun hHeld7 => ?_)
                clear hK9 K9
                try simp only [Act.put, List.getElem_toArray, List.getElem_cons_succ, List.getElem_cons_zero, List.setIfInBounds_toArray, List.set_cons_zero, List.set_cons_succ]
                refine wpAnyH_done (by kernel_rfl) ?_ _
                go_wp2
                go_ret
                exact LineQ.yes HS.out HGn HKn
      · have HS : Hid (specLine g ws = none) := Lib.hid (by
          unfold specLine
          rw [if_neg (fun h => HA0.out h.1), if_neg (fun h => hl1 h.2)])
        have h1I : ¬ ((1 : Int) < (ws.length : Int)) := by omega
        go_enter Tryz.func33, Tryz.ntmps33
        go_wp2
        go_ret
        exact LineQ.no HS.out (KeepG.refl _ _ _)
    · have HS : Hid (specLine g ws = none) := Lib.hid (by
        unfold specLine
        rw [if_neg (fun h => HN.out ⟨ha0, h.2⟩), if_neg (fun h => by
          have := h.1
          rw [e0] at this
          unfold isB stmKey at this
          have h2 : ws[0].toList = [97, 102, 102, 105, 120] := by simpa using ha0
          rw [h2] at this
          exact absurd this (by decide))])
      have hs0 : (ws[0].toList == [115, 116, 101, 109]) = false := by
        have h2 : ws[0].toList = [97, 102, 102, 105, 120] := by simpa using ha0
        rw [h2]; decide
      by_cases h6 : ws.length = 6
      · have h3 : ¬ (g.stems.length = 0) := fun h => HN.out ⟨ha0, h6, h⟩
        have h00 : ((g.stems.length : Int) == 0) = false := by rw [beq_eq_false_iff_ne]; omega
        have h6I : ((ws.length : Int) == 6) = true := by rw [beq_iff_eq]; omega
        go_enter Tryz.func33, Tryz.ntmps33
        go_wp2
        go_ret
        exact LineQ.no HS.out (KeepG.refl _ _ _)
      · have h6I : ((ws.length : Int) == 6) = false := by rw [beq_eq_false_iff_ne]; omega
        go_enter Tryz.func33, Tryz.ntmps33
        go_wp2
        go_ret
        exact LineQ.no HS.out (KeepG.refl _ _ _)
end Go.Proofs.YtndfhmphlomeiaaGreatDoor
