/- Several texts of this proof, joined: each is headed by its own sentence. Their conditions stand there. -/
import Derived.Test.YtndfhmphlomeiaaGreatDoorQd
import Derived.Test.YtndfhmphlomeiaaGreatDoorK2
import Derived.Test.YtndfhmphlomeiaaGreatDoorK0
import Derived.Laws.StructEq
import Derived.Test.YtndfhmphlomeiaaGreatDoorVg
import Derived.Lib.Builder
import Derived.Lib.AppendStr
import Derived.Lib.UnsafeStr
import Derived.Lib.Strings
import Derived.Lib.Slices
import Derived.Lib.Walk
import Derived.Laws.Externs
set_option linter.unusedSimpArgs false
/- Drawn grammars and texts of grammars out of bytes: DrawGrammarText, l01Spoil, DrawReadGrammar. Condition: at most 5000 bytes. -/
namespace Go.Proofs.YtndfhmphlomeiaaGreatDoor
open Go.RowKit
theorem emptyQ {t : ByteArray} (h : t.size = 0) : (t.toList == []) = true := by
  have e : t.data.toList = [] := List.eq_nil_of_length_eq_zero (by rw [Array.length_toList]; exact h)
  rw [Lib.toList_data, e]
  rfl
theorem not_emptyQ {t : ByteArray} (h : ¬ t.size = 0) : (t.toList == []) = false := by
  rw [Lib.toList_data]
  cases hl : t.data.toList with
  | nil => exact absurd (by have := congrArg List.length hl; rwa [Array.length_toList] at this) h
  | cons a l => rfl
attribute [local irreducible] Calls
set_option maxHeartbeats 2000000 in
theorem pickN_any (g : Nat) (bs : List UInt8) (k : Nat) (n : Nat) (z : Int) (w : World) (hs : SrcW w g bs k) (hk : k ≤ 900000) (hz : z = (n : Int)) (hn : n ≤ 1000000) :
    Calls Tryz.prog 35 #[.pointer (some ⟨g, 0, none⟩), .int .i64 z] w fun e w' => ∃ r k' : Nat, e = .returned (.int .i64 (r : Int)) ∧ (r < n ∨ r = 0) ∧ k' ≤ k + 2 ∧ SrcW w' g bs k' ∧ Kept g (g + 1) w w' := by
  by_cases h2 : n ≤ 200
  · exact pick_any g bs k n z w hs hk hz h2
  · subst hz
    have h1 : ¬ ((n : Int) ≤ 1) := by omega
    have h3 : 200 < (n : Int) := by omega
    have h4 : ¬ ((n : Int) = 0) := by omega
    go_enter Tryz.func35, Tryz.ntmps35
    go_wp2_with fail
    refine (next_any g bs k _ hs (by omega)).mono ?_
    rintro e w1 ⟨r, rfl, hr, hs1, hk1⟩
    have hrI : (r : Int) ≤ 255 := by omega
    go_wp2_with fail
    refine (next_any g bs (k + 1) _ hs1 (by omega)).mono ?_
    rintro e w2 ⟨r2, rfl, hr2, hs2, hk2⟩
    have hr2I : (r2 : Int) ≤ 255 := by omega
    go_wp2
    go_ret
    exact ⟨(r * 256 + r2) % n, k + 2, ret_int (by simp), .inl (Nat.mod_lt _ (by omega)), by omega, hs2, hk1.trans hk2⟩
set_option maxHeartbeats 8000000 in
set_option maxRecDepth 20000 in
theorem l01Spoil_any (g : Nat) (bs : List UInt8) (k : Nat) (t : ByteArray) (w : World) (hs : SrcW w g bs k) (hk : k ≤ 100000) (ht : t.size ≤ 100000) :
    Calls Tryz.prog 31 #[.pointer (some ⟨g, 0, none⟩), .string t] w fun e w' => ∃ (r : ByteArray) (k' : Nat), e = .returned (.string r) ∧ r.size ≤ t.size + 20 ∧ k' ≤ k + 20 ∧ SrcW w' g bs k' ∧ Kept g (g + 1) w w' := by
  have hgl := hs.lt
  go_enter Tryz.func31, Tryz.ntmps31
  go_wp2_with fail
  refine (pick_any g bs k 5 _ _ hs (by omega) rfl (by omega)).mono ?_
  rintro e w1 ⟨r, k1, rfl, hr, hk1, hs1, hkk1⟩
  have HS1 := Lib.hid hs1
  have HK1 := Lib.hid hkk1
  have hz1 := hkk1.size
  clear hs1 hkk1 hs
  by_cases r0 : r = 0
  · have hrI : (r : Int) = 0 := by omega
    rw [hrI]
    clear hrI hr
    go_wp2_with fail
    refine (pickN_any g bs k1 (t.size + 1) _ _ HS1.out (by omega) (by simp) (by omega)).mono ?_
    rintro e w2 ⟨p, k2, rfl, hp, hk2, hs2, hkk2⟩
    have hz2 := hkk2.size
    have hpI : (p : Int) ≤ (t.size : Int) := by omega
    have hpI0 : (0 : Int) ≤ (p : Int) := by omega
    have HS2 := Lib.hid hs2
    have HK2 := Lib.hid (HK1.out.trans hkk2)
    clear hs2 hkk2
    have hbL : Below w2.heap.size w2 (w2.drew.alloc (.cells (([⟨#[32]⟩, ⟨#[48]⟩, ⟨#[45]⟩, ⟨#[120]⟩, ⟨#[49]⟩, ⟨#[57]⟩, ⟨#[46]⟩] : List ByteArray).map Value.string).toArray 9)) := (Below.refl w2.heap.size w2).drew.trans (one_belowQ w2.drew (.cells (([⟨#[32]⟩, ⟨#[48]⟩, ⟨#[45]⟩, ⟨#[120]⟩, ⟨#[49]⟩, ⟨#[57]⟩, ⟨#[46]⟩] : List ByteArray).map Value.string).toArray 9))
    have hstL := strs_built w2.drew ([⟨#[32]⟩, ⟨#[48]⟩, ⟨#[45]⟩, ⟨#[120]⟩, ⟨#[49]⟩, ⟨#[57]⟩, ⟨#[46]⟩] : List ByteArray) (by decide)
    go_upto_region 4 with fail
    refine wp_region_held_drew (S := (fun _ => True)) (by kernel_rfl) ?_ (fun hHeld => ?_)
    · trivial
    refine wpAnyH_take (i := 0) (v := ?v1) rfl (by kernel_rfl) (by kernel_rfl) (by kernel_rfl) (fun _ _ _ h => h) (Or.inl ⟨by kernel_rfl, ?hy1⟩) (by assumption) ?_
    case hy1 => (intro w9 hS9; (try dsimp only at hS9); go_simp; (try with_reducible rfl))
    try simp only [Act.put, List.getElem_toArray, List.getElem_cons_succ, List.getElem_cons_zero, List.setIfInBounds_toArray, List.set_cons_zero, List.set_cons_succ]
    refine wpAnyH_take (i := 1) (v := ?v2) rfl (by kernel_rfl) (by kernel_rfl) (by kernel_rfl) (fun _ _ _ h => h) (Or.inl ⟨by kernel_rfl, ?hy2⟩) (by assumption) ?_
    case hy2 => (intro w9 hS9; (try dsimp only at hS9); go_simp; (try with_reducible rfl))
    try simp only [Act.put, List.getElem_toArray, List.getElem_cons_succ, List.getElem_cons_zero, List.setIfInBounds_toArray, List.set_cons_zero, List.set_cons_succ]
    refine wpAnyH_take (i := 2) (v := ?v3) rfl (by kernel_rfl) (by kernel_rfl) (by kernel_rfl) (fun _ _ _ h => h) (Or.inl ⟨by kernel_rfl, ?hy3⟩) (by assumption) ?_
    case hy3 => (intro w9 hS9; (try dsimp only at hS9); go_simp; (try with_reducible rfl))
    try simp only [Act.put, List.getElem_toArray, List.getElem_cons_succ, List.getElem_cons_zero, List.setIfInBounds_toArray, List.set_cons_zero, List.set_cons_succ]
    refine wpAnyH_take (i := 3) (v := ?v4) rfl (by kernel_rfl) (by kernel_rfl) (by kernel_rfl) (fun _ _ _ h => h) (Or.inl ⟨by kernel_rfl, ?hy4⟩) (by assumption) ?_
    case hy4 => (intro w9 hS9; (try dsimp only at hS9); go_simp; (try with_reducible rfl))
    try simp only [Act.put, List.getElem_toArray, List.getElem_cons_succ, List.getElem_cons_zero, List.setIfInBounds_toArray, List.set_cons_zero, List.set_cons_succ]
    refine wpAnyH_take (i := 7) (v := ?v5) rfl (by kernel_rfl) (by kernel_rfl) (by kernel_rfl) (fun _ _ _ h => h) (Or.inl ⟨by kernel_rfl, ?hy5⟩) (by assumption) ?_
    case hy5 => (intro w9 hS9; (try dsimp only at hS9); go_simp; (try with_reducible rfl))
    try simp only [Act.put, List.getElem_toArray, List.getElem_cons_succ, List.getElem_cons_zero, List.setIfInBounds_toArray, List.set_cons_zero, List.set_cons_succ]
    refine wpAnyH_take (i := 8) (v := ?v6) rfl (by kernel_rfl) (by kernel_rfl) (by kernel_rfl) (fun _ _ _ h => h) (Or.inl ⟨by kernel_rfl, ?hy6⟩) (by assumption) ?_
    case hy6 => (intro w9 hS9; (try dsimp only at hS9); go_simp; (try with_reducible rfl))
    try simp only [Act.put, List.getElem_toArray, List.getElem_cons_succ, List.getElem_cons_zero, List.setIfInBounds_toArray, List.set_cons_zero, List.set_cons_succ]
    refine wpAnyH_take (i := 9) (v := ?v7) rfl (by kernel_rfl) (by kernel_rfl) (by kernel_rfl) (fun _ _ _ h => h) (Or.inl ⟨by kernel_rfl, ?hy7⟩) (by assumption) ?_
    case hy7 => (intro w9 hS9; (try dsimp only at hS9); go_simp; (try with_reducible rfl))
    try simp only [Act.put, List.getElem_toArray, List.getElem_cons_succ, List.getElem_cons_zero, List.setIfInBounds_toArray, List.set_cons_zero, List.set_cons_succ]
    refine wpAnyH_ready (rs := [4]) (by kernel_rfl) (by simp) ?_
    refine AllReadyH.cons rfl (fun K9 hK9 => ?_) AllReadyH.nil
    rw [if_pos (by rfl)]
    go_simp
    refine hK9.out _ _ (trivial) (fun hHeld2 => ?_)
    clear hK9 K9
    try simp only [Act.put, List.getElem_toArray, List.getElem_cons_succ, List.getElem_cons_zero, List.setIfInBounds_toArray, List.set_cons_zero, List.set_cons_succ]
    refine wpAnyH_ready (rs := [5]) (by kernel_rfl) (by simp) ?_
    refine AllReadyH.cons rfl (fun K9 hK9 => ?_) AllReadyH.nil
    rw [if_pos (by rfl)]
    go_wp2_with (go_at_call 36; refine (text_any g bs k2 _ ([⟨#[32]⟩, ⟨#[48]⟩, ⟨#[45]⟩, ⟨#[120]⟩, ⟨#[49]⟩, ⟨#[57]⟩, ⟨#[46]⟩] : List ByteArray) _ (HS2.out.below hbL) (by omega) hstL (by decide) (by decide) (fun a n c e p hp => by cases e; cases hp; show w2.heap.size ≠ g; omega)).mono ?_; rintro e w3 ⟨s, k3, rfl, hsm, hk3, hs3, hkk3⟩)
    have hkk3 : Kept g (g + 1) w2 w3 := (Kept.of_below hbL).trans hkk3
    have hs12 : s.size ≤ 12 := (by decide : ∀ s ∈ ([⟨#[32]⟩, ⟨#[48]⟩, ⟨#[45]⟩, ⟨#[120]⟩, ⟨#[49]⟩, ⟨#[57]⟩, ⟨#[46]⟩] : List ByteArray), s.size ≤ 12) s hsm
    have hsum : (9223372036854775807 < min p t.size + s.size) = False := eq_false (by omega)
    have hsum2 : (9223372036854775807 < min p t.size + s.size + (t.size - p)) = False := eq_false (by omega)
    refine hK9.out _ _ (trivial) (fun hHeld3 => ?_)
    clear hK9 K9
    try simp only [Act.put, List.getElem_toArray, List.getElem_cons_succ, List.getElem_cons_zero, List.setIfInBounds_toArray, List.set_cons_zero, List.set_cons_succ]
    refine wpAnyH_take (i := 6) (v := ?v8) rfl (by kernel_rfl) (by kernel_rfl) (by kernel_rfl) (fun _ _ _ h => h) (Or.inl ⟨by kernel_rfl, ?hy8⟩) (by assumption) ?_
    case hy8 => (intro w9 hS9; (try dsimp only at hS9); go_simp; (try with_reducible rfl))
    try simp only [Act.put, List.getElem_toArray, List.getElem_cons_succ, List.getElem_cons_zero, List.setIfInBounds_toArray, List.set_cons_zero, List.set_cons_succ]
    refine wpAnyH_take (i := 10) (v := ?v9) rfl (by kernel_rfl) (by kernel_rfl) (by kernel_rfl) (fun _ _ _ h => h) (Or.inl ⟨by kernel_rfl, ?hy9⟩) (by assumption) ?_
    case hy9 => (intro w9 hS9; (try dsimp only at hS9); go_simp; (try with_reducible rfl))
    try simp only [Act.put, List.getElem_toArray, List.getElem_cons_succ, List.getElem_cons_zero, List.setIfInBounds_toArray, List.set_cons_zero, List.set_cons_succ]
    refine wpAnyH_take (i := 11) (v := ?v10) rfl (by kernel_rfl) (by kernel_rfl) (by kernel_rfl) (fun _ _ _ h => h) (Or.inl ⟨by kernel_rfl, ?hy10⟩) (by assumption) ?_
    case hy10 => (intro w9 hS9; (try dsimp only at hS9); go_simp; (try with_reducible rfl))
    try simp only [Act.put, List.getElem_toArray, List.getElem_cons_succ, List.getElem_cons_zero, List.setIfInBounds_toArray, List.set_cons_zero, List.set_cons_succ]
    refine wpAnyH_done (by kernel_rfl) ?_ _
    go_wp2
    go_ret
    refine ⟨_, k3, rfl, ?_, by omega, hs3, HK2.out.trans hkk3⟩
    simp only [ByteArray.size_append, ByteArray.size_extract]
    omega
  · by_cases r1 : r = 1
    · have hrI : (r : Int) = 1 := by omega
      rw [hrI]
      clear hrI hr
      by_cases ht0 : t.size = 0
      · have htE := emptyQ ht0
        go_wp2
        go_ret
        exact ⟨t, k1, rfl, by omega, by omega, HS1.out, HK1.out⟩
      · have htE := not_emptyQ ht0
        go_wp2_with fail
        refine (pickN_any g bs k1 t.size _ _ HS1.out (by omega) rfl (by omega)).mono ?_
        rintro e w2 ⟨p, k2, rfl, hp, hk2, hs2, hkk2⟩
        have hpI : (p : Int) + 1 ≤ (t.size : Int) := by omega
        have hpI0 : (0 : Int) ≤ (p : Int) := by omega
        have hpI2 : (p : Int) ≤ (t.size : Int) := by omega
        have hsum2 : (9223372036854775807 < min p t.size + (t.size - (p + 1))) = False := eq_false (by omega)
        go_wp2_with fail
        go_quiet (fail)
        go_wp2
        go_ret
        refine ⟨_, k2, rfl, ?_, by omega, hs2.below (below_drewN (Below.refl _ _) _), (HK1.out.trans hkk2).trans (Kept.of_below (below_drewN (Below.refl _ _) _))⟩
        simp only [ByteArray.size_append, ByteArray.size_extract]
        omega
    · have hn0 : ¬ ((r : Int) = 0) := by omega
      have hn1 : ¬ ((r : Int) = 1) := by omega
      go_wp2
      go_ret
      exact ⟨t, k1, rfl, by omega, by omega, HS1.out, HK1.out⟩
set_option maxHeartbeats 4000000 in
set_option maxRecDepth 20000 in
theorem drawRead_any (v : Value) (bs : List UInt8) (w : World) (hv : BytesR w v bs) (hl : bs.length ≤ 5000) :
    Calls Tryz.prog 8 #[v] w fun e w' => ∃ r : ByteArray, e = .returned (.string r) ∧ r.size ≤ 1048576 ∧ Below w.heap.size w w' := by
  obtain ⟨pa, pc, rfl, -, -⟩ := hv.shape
  go_enter Tryz.func8, Tryz.ntmps8
  go_wp2_with fail
  refine (l00From_any _ bs _ hv hl).mono ?_
  rintro e w1 ⟨rfl, hs1, hb1⟩
  have hz1 := hb1.size
  have HB1 := Lib.hid hb1
  have HS1 := Lib.hid hs1
  clear hs1 hb1 hv
  generalize hgE : w.heap.size = g at *
  have hg1 := HS1.out.lt
  go_wp2_with fail
  refine (l04Draw_any g bs 0 w1 HS1.out (by omega)).mono ?_
  rintro e w2 ⟨v1, v2, rfl, ⟨x, us, k1, hg2, hS2, hxa, hxs, hk1, hs2⟩, hkk2⟩
  have hz2 := hkk2.size
  obtain ⟨a1, c1, a2, c2, e1, e2⟩ := hg2.shape
  subst e1 e2
  have hal := one_belowQ w2 (.cells #[.slice a1 x.affixes.length c1, .slice a2 x.stems.length c2] 27)
  have hX3 : BoxG (w2.alloc (.cells #[.slice a1 x.affixes.length c1, .slice a2 x.stems.length c2] 27)) w2.heap.size (.slice a1 x.affixes.length c1) (.slice a2 x.stems.length c2) := heap_alloc_new w2 _
  have hr3 := ((hg2.below hal).graW hS2.n).read
  have HBx : Hid (GraBox (w2.alloc (.cells #[.slice a1 x.affixes.length c1, .slice a2 x.stems.length c2] 27)) w2.heap.size (.slice a1 x.affixes.length c1) (.slice a2 x.stems.length c2) x) := by
    obtain ⟨s1, s2, e, h1, h2⟩ := hr3
    injection e with e
    simp only [Array.mk.injEq, List.cons.injEq, and_true] at e
    obtain ⟨e1, e2⟩ := e
    subst e1 e2
    exact Lib.hid ⟨hX3.c0.1, hX3.c1.1, h1, h2⟩
  have HS3 := Lib.hid (hs2.below hal)
  have HB3 := Lib.hid (HB1.out.trans ((hkk2.below (by omega) (by omega)).trans (hal.mono (by omega))))
  have HSx := Lib.hid hS2
  clear hg2 hS2 hs2 hkk2 hal hX3 hr3
  go_wp2_with fail
  refine (l04Text_any _ _ _ x _ HBx.out HSx.out).mono ?_
  rintro e w3 ⟨rfl, q, rfl⟩
  obtain ⟨t, ht⟩ : ∃ t : ByteArray, t = ⟨(textG x).toArray⟩ := ⟨_, rfl⟩
  have htl : t.size ≤ 6000 := by
    have h1 := affs_le HSx.out x.affixes.length
    have h2 := stms_le HSx.out x.stems.length
    rw [List.take_length] at h1 h2
    rw [ht]
    show (textG x).toArray.size ≤ 6000
    rw [List.size_toArray, textG, List.length_append]
    omega
  rw [← ht]
  clear ht
  have HS4 := Lib.hid (HS3.out.below (below_drewN (Below.refl _ _) q))
  have HB4 := Lib.hid (HB3.out.trans (below_drewN (Below.refl _ _) q))
  clear HS3 HB3 HBx
  go_wp2_with fail
  refine (one_any g bs k1 3 _ _ HS4.out (by omega) rfl (by omega)).mono ?_
  rintro e w5 ⟨b, k5, rfl, hk5, hs5, hkk5⟩
  have hz5 := hkk5.size
  have HB5 := Lib.hid (HB4.out.trans (hkk5.below (by omega) (by have := HB4.out.size; omega)))
  have HS5 := Lib.hid hs5
  clear hs5 hkk5
  cases b
  · go_wp2
    go_ret
    exact ⟨t, rfl, by omega, by rw [hgE]; exact HB5.out⟩
  · go_wp2_with fail
    refine (l01Spoil_any g bs k5 t _ HS5.out (by omega) (by omega)).mono ?_
    rintro e w6 ⟨r, k6, rfl, hr6, hk6, hs6, hkk6⟩
    go_wp2
    go_ret
    exact ⟨r, rfl, by omega, by rw [hgE]; exact HB5.out.trans (hkk6.below (by omega) (by have := HB5.out.size; omega))⟩
end Go.Proofs.YtndfhmphlomeiaaGreatDoor
/- FnAffixes: the drawn affix and word, behind the plain one. Condition: few choices so far. -/
namespace Go.Proofs.YtndfhmphlomeiaaGreatDoor
open Go.RowKit
attribute [local irreducible] Calls
set_option maxHeartbeats 8000000 in
set_option maxRecDepth 20000 in
theorem bentAffix_any (g : Nat) (bs : List UInt8) (k : Nat) (w : World) (hs : SrcW w g bs k) (hk : k ≤ 100000) :
    Calls Tryz.prog 46 #[.pointer (some ⟨g, 0, none⟩)] w fun e w' => ∃ (x : AffD) (k' : Nat), e = .returned (.agg #[.string x.name, .bool x.front, .string x.cond, .string x.strip, .string x.add]) ∧ AffLim x 20 ∧ k' ≤ k + 8 ∧ SrcW w' g bs k' ∧ Kept g (g + 1) w w' := by
  have hgl := hs.lt
  have hb0 : Below w.heap.size w (w.alloc (.cells affNil 51)) := (Below.refl _ _).alloc (Nat.le_refl _) _
  have HB0 := Lib.hid hb0
  have rA := heap_alloc_new w (.cells affNil 51)
  go_enter Tryz.func46, Tryz.ntmps46
  go_wp2_with fail
  refine (drawAffix_any g bs k _ (hs.below hb0) (by omega)).mono ?_
  rintro e w1 ⟨x, k1, rfl, hx, hk1, hs1, hkk1⟩
  have hkk1 : Kept g (g + 1) (w.alloc (.cells affNil 51)) w1 := hkk1
  have hz1 : w.heap.size + 1 ≤ w1.heap.size := by have := hkk1.size; simpa using this
  have hres := (hkk1.block w.heap.size (by simp) (.inr (by omega))).trans rA
  have hb1 : Below w1.heap.size w1 (w1.alloc (.cells (affV x) 51)) := (Below.refl _ _).alloc (Nat.le_refl _) _
  have HB1 := Lib.hid hb1
  have rB := heap_alloc_new w1 (.cells (affV x) 51)
  have K1 := Lib.hid (((Kept.of_below (lo := g) (hi := g + 1) HB0.out).trans hkk1).trans (Kept.of_below (lo := g) (hi := g + 1) HB1.out))
  have HX := Lib.hid hx
  have HRes := Lib.hid hres
  have HS1 := Lib.hid hs1
  clear hs hx hkk1 hres hs1 rA hb0
  go_wp2_with fail
  refine (pick_any g bs k1 30 _ _ (HS1.out.below hb1) (by omega) rfl (by omega)).mono ?_
  rintro e w2 ⟨r, k2, rfl, hr, hk2, hs2, hkk2⟩
  have hkk2 : Kept g (g + 1) (w1.alloc (.cells (affV x) 51)) w2 := hkk2
  have hz2 : w1.heap.size + 1 ≤ w2.heap.size := by have := hkk2.size; simpa using this
  have hbox := (hkk2.block w1.heap.size (by simp) (.inr (by omega))).trans rB
  have hres := ((hkk2.block w.heap.size (by simp; omega) (.inr (by omega))).trans (HB1.out.block w.heap.size (by omega))).trans HRes.out
  have K2 := Lib.hid (K1.out.trans hkk2)
  have HS2 := Lib.hid hs2
  have HBox := Lib.hid hbox
  have HR2 := Lib.hid hres
  have hne : ¬ (w1.heap.size = w.heap.size) := by omega
  have hne2 : ¬ (w.heap.size = w1.heap.size) := by omega
  have xn := HX.out.n
  have xc := HX.out.c
  have xs := HX.out.s
  have xa := HX.out.a
  clear hkk2 rB hb1 hs2 hbox hres hr
  by_cases r0 : r = 0
  · subst r0
    obtain ⟨e0, z0⟩ := src_cell (w := w2) (i := 0) (v := (.string x.name)) HBox.out rfl
    obtain ⟨e1, z1⟩ := src_cell (w := w2) (i := 1) (v := (.bool x.front)) HBox.out rfl
    obtain ⟨e2, z2⟩ := src_cell (w := w2) (i := 2) (v := (.string x.cond)) HBox.out rfl
    obtain ⟨e3, z3⟩ := src_cell (w := w2) (i := 3) (v := (.string x.strip)) HBox.out rfl
    obtain ⟨e4, z4⟩ := src_cell (w := w2) (i := 4) (v := (.string x.add)) HBox.out rfl
    obtain ⟨a0, y0⟩ := src_cell (w := w2) (i := 0) (v := (.string ⟨#[]⟩)) HR2.out rfl
    obtain ⟨a1, y1⟩ := src_cell (w := w2) (i := 1) (v := (.bool false)) HR2.out rfl
    obtain ⟨a2, y2⟩ := src_cell (w := w2) (i := 2) (v := (.string ⟨#[]⟩)) HR2.out rfl
    obtain ⟨a3, y3⟩ := src_cell (w := w2) (i := 3) (v := (.string ⟨#[]⟩)) HR2.out rfl
    obtain ⟨a4, y4⟩ := src_cell (w := w2) (i := 4) (v := (.string ⟨#[]⟩)) HR2.out rfl
    go_wp2
    have hr3 : (w2.setCell ⟨w1.heap.size, 0, none⟩ (.string ⟨#[]⟩)).heap[w.heap.size]? = some (.cells affNil 51 (0, 0)) := (Below.heap_setCell _ _ _ _ (by show w.heap.size ≠ w1.heap.size; omega)).trans HR2.out
    have hk3 : Kept w1.heap.size (w1.heap.size + 1) w2 (w2.setCell ⟨w1.heap.size, 0, none⟩ (.string ⟨#[]⟩)) := kept_setCell (Nat.le_refl _) (Nat.lt_succ_self _) _
    have hz3 := hk3.size
    have HR := Lib.hid hr3
    have HSe := Lib.hid (HS2.out.low (hk3.below (by omega) (by omega)))
    have Ke := Lib.hid (K2.out.then_new hk3 (by omega))
    have st := store5 HR.out (.string ⟨#[]⟩) (.bool x.front) (.string x.cond) (.string x.strip) (.string x.add)
    refine bodyPost_ret (v := .agg #[.string ⟨#[]⟩, .bool x.front, .string x.cond, .string x.strip, .string x.add]) (results_cell_row (p := 2) (ty := 51) rfl _ _ w.heap.size _ _ _ _ rfl st.1 Tryz.underlying51 rfl infoAffix) rfl
      ⟨{ x with name := ⟨#[]⟩ }, k2, rfl, ⟨(by simp [ByteArray.size]), xc, xs, xa⟩, by omega, HSe.out.low (st.2.1.below (by omega) (by omega)), Ke.out.then_new st.2.1 (Nat.le_refl _)⟩
  · by_cases r1 : r = 1
    · subst r1
      obtain ⟨e0, z0⟩ := src_cell (w := w2) (i := 0) (v := (.string x.name)) HBox.out rfl
      obtain ⟨e1, z1⟩ := src_cell (w := w2) (i := 1) (v := (.bool x.front)) HBox.out rfl
      obtain ⟨e2, z2⟩ := src_cell (w := w2) (i := 2) (v := (.string x.cond)) HBox.out rfl
      obtain ⟨e3, z3⟩ := src_cell (w := w2) (i := 3) (v := (.string x.strip)) HBox.out rfl
      obtain ⟨e4, z4⟩ := src_cell (w := w2) (i := 4) (v := (.string x.add)) HBox.out rfl
      go_wp2_with fail
      have hb : Below w2.heap.size w2 (w2.alloc (.cells (([⟨#[97, 97, 97, 97, 97]⟩, ⟨#[97, 97, 97, 97]⟩, ⟨#[65]⟩, ⟨#[46, 46, 46, 46]⟩] : List ByteArray).map Value.string).toArray 9)) := (Below.refl _ _).alloc (Nat.le_refl _) _
      have HB := Lib.hid hb
      have hst := strs_built w2 [⟨#[97, 97, 97, 97, 97]⟩, ⟨#[97, 97, 97, 97]⟩, ⟨#[65]⟩, ⟨#[46, 46, 46, 46]⟩] (by simp)
      refine (text_any g bs k2 _ [⟨#[97, 97, 97, 97, 97]⟩, ⟨#[97, 97, 97, 97]⟩, ⟨#[65]⟩, ⟨#[46, 46, 46, 46]⟩] _ (HS2.out.below hb) (by omega) hst (by simp) (by simp) (fun a n c e p hp => ?_)).mono ?_
      · cases e; cases hp; show w2.heap.size ≠ g; omega
      rintro e wt ⟨t, kt, rfl, htm, hkt, hst2, hkkt⟩
      have hkkt : Kept g (g + 1) (w2.alloc (.cells (([⟨#[97, 97, 97, 97, 97]⟩, ⟨#[97, 97, 97, 97]⟩, ⟨#[65]⟩, ⟨#[46, 46, 46, 46]⟩] : List ByteArray).map Value.string).toArray 9)) wt := hkkt
      have ht20 : t.size ≤ 20 := by
        simp only [List.mem_cons, List.not_mem_nil, or_false] at htm
        rcases htm with rfl | rfl | rfl | rfl <;> first | decide | assumption
      have Kt := Lib.hid ((K2.out.trans (Kept.of_below (lo := g) (hi := g + 1) HB.out)).trans hkkt)
      have HSt := Lib.hid hst2
      have hzt : w2.heap.size + 1 ≤ wt.heap.size := by have := hkkt.size; simpa using this
      have hbox := (hkkt.block w1.heap.size (by simp; omega) (.inr (by omega))).trans ((HB.out.block w1.heap.size (by omega)).trans HBox.out)
      have hres := (hkkt.block w.heap.size (by simp; omega) (.inr (by omega))).trans ((HB.out.block w.heap.size (by omega)).trans HR2.out)
      have HBt := Lib.hid hbox
      have HRt := Lib.hid hres
      clear hkkt hst2 htm hst hb hbox hres e0 e1 e2 e3 e4 z0 z1 z2 z3 z4
      obtain ⟨e0, z0⟩ := src_cell (w := wt) (i := 0) (v := (.string x.name)) HBt.out rfl
      obtain ⟨e1, z1⟩ := src_cell (w := wt) (i := 1) (v := (.bool x.front)) HBt.out rfl
      obtain ⟨e2, z2⟩ := src_cell (w := wt) (i := 2) (v := (.string x.cond)) HBt.out rfl
      obtain ⟨e3, z3⟩ := src_cell (w := wt) (i := 3) (v := (.string x.strip)) HBt.out rfl
      obtain ⟨e4, z4⟩ := src_cell (w := wt) (i := 4) (v := (.string x.add)) HBt.out rfl
      obtain ⟨a0, y0⟩ := src_cell (w := wt) (i := 0) (v := (.string ⟨#[]⟩)) HRt.out rfl
      obtain ⟨a1, y1⟩ := src_cell (w := wt) (i := 1) (v := (.bool false)) HRt.out rfl
      obtain ⟨a2, y2⟩ := src_cell (w := wt) (i := 2) (v := (.string ⟨#[]⟩)) HRt.out rfl
      obtain ⟨a3, y3⟩ := src_cell (w := wt) (i := 3) (v := (.string ⟨#[]⟩)) HRt.out rfl
      obtain ⟨a4, y4⟩ := src_cell (w := wt) (i := 4) (v := (.string ⟨#[]⟩)) HRt.out rfl
      go_wp2
      have hr3 : (wt.setCell ⟨w1.heap.size, 2, none⟩ (.string t)).heap[w.heap.size]? = some (.cells affNil 51 (0, 0)) := (Below.heap_setCell _ _ _ _ (by show w.heap.size ≠ w1.heap.size; omega)).trans HRt.out
      have hk3 : Kept w1.heap.size (w1.heap.size + 1) wt (wt.setCell ⟨w1.heap.size, 2, none⟩ (.string t)) := kept_setCell (Nat.le_refl _) (Nat.lt_succ_self _) _
      have hz3 := hk3.size
      have HR := Lib.hid hr3
      have HSe := Lib.hid (HSt.out.low (hk3.below (by omega) (by omega)))
      have Ke := Lib.hid (Kt.out.then_new hk3 (by omega))
      have st := store5 HR.out (.string x.name) (.bool x.front) (.string t) (.string x.strip) (.string x.add)
      refine bodyPost_ret (v := .agg #[.string x.name, .bool x.front, .string t, .string x.strip, .string x.add]) (results_cell_row (p := 2) (ty := 51) rfl _ _ w.heap.size _ _ _ _ rfl st.1 Tryz.underlying51 rfl infoAffix) rfl
        ⟨{ x with cond := t }, kt, rfl, ⟨xn, (by simpa using ht20), xs, xa⟩, by omega, HSe.out.low (st.2.1.below (by omega) (by omega)), Ke.out.then_new st.2.1 (Nat.le_refl _)⟩
    · by_cases r2 : r = 2
      · subst r2
        obtain ⟨e0, z0⟩ := src_cell (w := w2) (i := 0) (v := (.string x.name)) HBox.out rfl
        obtain ⟨e1, z1⟩ := src_cell (w := w2) (i := 1) (v := (.bool x.front)) HBox.out rfl
        obtain ⟨e2, z2⟩ := src_cell (w := w2) (i := 2) (v := (.string x.cond)) HBox.out rfl
        obtain ⟨e3, z3⟩ := src_cell (w := w2) (i := 3) (v := (.string x.strip)) HBox.out rfl
        obtain ⟨e4, z4⟩ := src_cell (w := w2) (i := 4) (v := (.string x.add)) HBox.out rfl
        go_wp2_with fail
        have hb : Below w2.heap.size w2 (w2.alloc (.cells (([⟨#[97, 97, 97, 97, 97]⟩, ⟨#[46]⟩, x.add] : List ByteArray).map Value.string).toArray 9)) := (Below.refl _ _).alloc (Nat.le_refl _) _
        have HB := Lib.hid hb
        have hst := strs_built w2 [⟨#[97, 97, 97, 97, 97]⟩, ⟨#[46]⟩, x.add] (by simp) (by simp only [List.mem_cons, List.not_mem_nil, or_false]; intro s h; rcases h with rfl | rfl | rfl <;> first | decide | (unfold maxLen; omega))
        refine (text_any g bs k2 _ [⟨#[97, 97, 97, 97, 97]⟩, ⟨#[46]⟩, x.add] _ (HS2.out.below hb) (by omega) hst (by simp) (by simp) (fun a n c e p hp => ?_)).mono ?_
        · cases e; cases hp; show w2.heap.size ≠ g; omega
        rintro e wt ⟨t, kt, rfl, htm, hkt, hst2, hkkt⟩
        have hkkt : Kept g (g + 1) (w2.alloc (.cells (([⟨#[97, 97, 97, 97, 97]⟩, ⟨#[46]⟩, x.add] : List ByteArray).map Value.string).toArray 9)) wt := hkkt
        have ht20 : t.size ≤ 20 := by
          simp only [List.mem_cons, List.not_mem_nil, or_false] at htm
          rcases htm with rfl | rfl | rfl <;> first | decide | assumption
        have Kt := Lib.hid ((K2.out.trans (Kept.of_below (lo := g) (hi := g + 1) HB.out)).trans hkkt)
        have HSt := Lib.hid hst2
        have hzt : w2.heap.size + 1 ≤ wt.heap.size := by have := hkkt.size; simpa using this
        have hbox := (hkkt.block w1.heap.size (by simp; omega) (.inr (by omega))).trans ((HB.out.block w1.heap.size (by omega)).trans HBox.out)
        have hres := (hkkt.block w.heap.size (by simp; omega) (.inr (by omega))).trans ((HB.out.block w.heap.size (by omega)).trans HR2.out)
        have HBt := Lib.hid hbox
        have HRt := Lib.hid hres
        clear hkkt hst2 htm hst hb hbox hres e0 e1 e2 e3 e4 z0 z1 z2 z3 z4
        obtain ⟨e0, z0⟩ := src_cell (w := wt) (i := 0) (v := (.string x.name)) HBt.out rfl
        obtain ⟨e1, z1⟩ := src_cell (w := wt) (i := 1) (v := (.bool x.front)) HBt.out rfl
        obtain ⟨e2, z2⟩ := src_cell (w := wt) (i := 2) (v := (.string x.cond)) HBt.out rfl
        obtain ⟨e3, z3⟩ := src_cell (w := wt) (i := 3) (v := (.string x.strip)) HBt.out rfl
        obtain ⟨e4, z4⟩ := src_cell (w := wt) (i := 4) (v := (.string x.add)) HBt.out rfl
        obtain ⟨a0, y0⟩ := src_cell (w := wt) (i := 0) (v := (.string ⟨#[]⟩)) HRt.out rfl
        obtain ⟨a1, y1⟩ := src_cell (w := wt) (i := 1) (v := (.bool false)) HRt.out rfl
        obtain ⟨a2, y2⟩ := src_cell (w := wt) (i := 2) (v := (.string ⟨#[]⟩)) HRt.out rfl
        obtain ⟨a3, y3⟩ := src_cell (w := wt) (i := 3) (v := (.string ⟨#[]⟩)) HRt.out rfl
        obtain ⟨a4, y4⟩ := src_cell (w := wt) (i := 4) (v := (.string ⟨#[]⟩)) HRt.out rfl
        go_wp2
        have hr3 : (wt.setCell ⟨w1.heap.size, 3, none⟩ (.string t)).heap[w.heap.size]? = some (.cells affNil 51 (0, 0)) := (Below.heap_setCell _ _ _ _ (by show w.heap.size ≠ w1.heap.size; omega)).trans HRt.out
        have hk3 : Kept w1.heap.size (w1.heap.size + 1) wt (wt.setCell ⟨w1.heap.size, 3, none⟩ (.string t)) := kept_setCell (Nat.le_refl _) (Nat.lt_succ_self _) _
        have hz3 := hk3.size
        have HR := Lib.hid hr3
        have HSe := Lib.hid (HSt.out.low (hk3.below (by omega) (by omega)))
        have Ke := Lib.hid (Kt.out.then_new hk3 (by omega))
        have st := store5 HR.out (.string x.name) (.bool x.front) (.string x.cond) (.string t) (.string x.add)
        refine bodyPost_ret (v := .agg #[.string x.name, .bool x.front, .string x.cond, .string t, .string x.add]) (results_cell_row (p := 2) (ty := 51) rfl _ _ w.heap.size _ _ _ _ rfl st.1 Tryz.underlying51 rfl infoAffix) rfl
          ⟨{ x with strip := t }, kt, rfl, ⟨xn, xc, (by simpa using ht20), xa⟩, by omega, HSe.out.low (st.2.1.below (by omega) (by omega)), Ke.out.then_new st.2.1 (Nat.le_refl _)⟩
      · by_cases r3 : r = 3
        · subst r3
          obtain ⟨e0, z0⟩ := src_cell (w := w2) (i := 0) (v := (.string x.name)) HBox.out rfl
          obtain ⟨e1, z1⟩ := src_cell (w := w2) (i := 1) (v := (.bool x.front)) HBox.out rfl
          obtain ⟨e2, z2⟩ := src_cell (w := w2) (i := 2) (v := (.string x.cond)) HBox.out rfl
          obtain ⟨e3, z3⟩ := src_cell (w := w2) (i := 3) (v := (.string x.strip)) HBox.out rfl
          obtain ⟨e4, z4⟩ := src_cell (w := w2) (i := 4) (v := (.string x.add)) HBox.out rfl
          go_wp2_with fail
          have hb : Below w2.heap.size w2 (w2.alloc (.cells (([⟨#[97, 97, 97, 97, 97]⟩, ⟨#[97, 97, 97, 97]⟩, ⟨#[49]⟩, x.strip] : List ByteArray).map Value.string).toArray 9)) := (Below.refl _ _).alloc (Nat.le_refl _) _
          have HB := Lib.hid hb
          have hst := strs_built w2 [⟨#[97, 97, 97, 97, 97]⟩, ⟨#[97, 97, 97, 97]⟩, ⟨#[49]⟩, x.strip] (by simp) (by simp only [List.mem_cons, List.not_mem_nil, or_false]; intro s h; rcases h with rfl | rfl | rfl | rfl <;> first | decide | (unfold maxLen; omega))
          refine (text_any g bs k2 _ [⟨#[97, 97, 97, 97, 97]⟩, ⟨#[97, 97, 97, 97]⟩, ⟨#[49]⟩, x.strip] _ (HS2.out.below hb) (by omega) hst (by simp) (by simp) (fun a n c e p hp => ?_)).mono ?_
          · cases e; cases hp; show w2.heap.size ≠ g; omega
          rintro e wt ⟨t, kt, rfl, htm, hkt, hst2, hkkt⟩
          have hkkt : Kept g (g + 1) (w2.alloc (.cells (([⟨#[97, 97, 97, 97, 97]⟩, ⟨#[97, 97, 97, 97]⟩, ⟨#[49]⟩, x.strip] : List ByteArray).map Value.string).toArray 9)) wt := hkkt
          have ht20 : t.size ≤ 20 := by
            simp only [List.mem_cons, List.not_mem_nil, or_false] at htm
            rcases htm with rfl | rfl | rfl | rfl <;> first | decide | assumption
          have Kt := Lib.hid ((K2.out.trans (Kept.of_below (lo := g) (hi := g + 1) HB.out)).trans hkkt)
          have HSt := Lib.hid hst2
          have hzt : w2.heap.size + 1 ≤ wt.heap.size := by have := hkkt.size; simpa using this
          have hbox := (hkkt.block w1.heap.size (by simp; omega) (.inr (by omega))).trans ((HB.out.block w1.heap.size (by omega)).trans HBox.out)
          have hres := (hkkt.block w.heap.size (by simp; omega) (.inr (by omega))).trans ((HB.out.block w.heap.size (by omega)).trans HR2.out)
          have HBt := Lib.hid hbox
          have HRt := Lib.hid hres
          clear hkkt hst2 htm hst hb hbox hres e0 e1 e2 e3 e4 z0 z1 z2 z3 z4
          obtain ⟨e0, z0⟩ := src_cell (w := wt) (i := 0) (v := (.string x.name)) HBt.out rfl
          obtain ⟨e1, z1⟩ := src_cell (w := wt) (i := 1) (v := (.bool x.front)) HBt.out rfl
          obtain ⟨e2, z2⟩ := src_cell (w := wt) (i := 2) (v := (.string x.cond)) HBt.out rfl
          obtain ⟨e3, z3⟩ := src_cell (w := wt) (i := 3) (v := (.string x.strip)) HBt.out rfl
          obtain ⟨e4, z4⟩ := src_cell (w := wt) (i := 4) (v := (.string x.add)) HBt.out rfl
          obtain ⟨a0, y0⟩ := src_cell (w := wt) (i := 0) (v := (.string ⟨#[]⟩)) HRt.out rfl
          obtain ⟨a1, y1⟩ := src_cell (w := wt) (i := 1) (v := (.bool false)) HRt.out rfl
          obtain ⟨a2, y2⟩ := src_cell (w := wt) (i := 2) (v := (.string ⟨#[]⟩)) HRt.out rfl
          obtain ⟨a3, y3⟩ := src_cell (w := wt) (i := 3) (v := (.string ⟨#[]⟩)) HRt.out rfl
          obtain ⟨a4, y4⟩ := src_cell (w := wt) (i := 4) (v := (.string ⟨#[]⟩)) HRt.out rfl
          go_wp2
          have hr3 : (wt.setCell ⟨w1.heap.size, 4, none⟩ (.string t)).heap[w.heap.size]? = some (.cells affNil 51 (0, 0)) := (Below.heap_setCell _ _ _ _ (by show w.heap.size ≠ w1.heap.size; omega)).trans HRt.out
          have hk3 : Kept w1.heap.size (w1.heap.size + 1) wt (wt.setCell ⟨w1.heap.size, 4, none⟩ (.string t)) := kept_setCell (Nat.le_refl _) (Nat.lt_succ_self _) _
          have hz3 := hk3.size
          have HR := Lib.hid hr3
          have HSe := Lib.hid (HSt.out.low (hk3.below (by omega) (by omega)))
          have Ke := Lib.hid (Kt.out.then_new hk3 (by omega))
          have st := store5 HR.out (.string x.name) (.bool x.front) (.string x.cond) (.string x.strip) (.string t)
          refine bodyPost_ret (v := .agg #[.string x.name, .bool x.front, .string x.cond, .string x.strip, .string t]) (results_cell_row (p := 2) (ty := 51) rfl _ _ w.heap.size _ _ _ _ rfl st.1 Tryz.underlying51 rfl infoAffix) rfl
            ⟨{ x with add := t }, kt, rfl, ⟨xn, xc, xs, (by simpa using ht20)⟩, by omega, HSe.out.low (st.2.1.below (by omega) (by omega)), Ke.out.then_new st.2.1 (Nat.le_refl _)⟩
        · have q0 : ((r : Int) == 0) = false := by simp; omega
          have q1 : ((r : Int) == 1) = false := by simp; omega
          have q2 : ((r : Int) == 2) = false := by simp; omega
          have q3 : ((r : Int) == 3) = false := by simp; omega
          clear r0 r1 r2 r3
          obtain ⟨e0, z0⟩ := src_cell (w := w2) (i := 0) (v := (.string x.name)) HBox.out rfl
          obtain ⟨e1, z1⟩ := src_cell (w := w2) (i := 1) (v := (.bool x.front)) HBox.out rfl
          obtain ⟨e2, z2⟩ := src_cell (w := w2) (i := 2) (v := (.string x.cond)) HBox.out rfl
          obtain ⟨e3, z3⟩ := src_cell (w := w2) (i := 3) (v := (.string x.strip)) HBox.out rfl
          obtain ⟨e4, z4⟩ := src_cell (w := w2) (i := 4) (v := (.string x.add)) HBox.out rfl
          obtain ⟨a0, y0⟩ := src_cell (w := w2) (i := 0) (v := (.string ⟨#[]⟩)) HR2.out rfl
          obtain ⟨a1, y1⟩ := src_cell (w := w2) (i := 1) (v := (.bool false)) HR2.out rfl
          obtain ⟨a2, y2⟩ := src_cell (w := w2) (i := 2) (v := (.string ⟨#[]⟩)) HR2.out rfl
          obtain ⟨a3, y3⟩ := src_cell (w := w2) (i := 3) (v := (.string ⟨#[]⟩)) HR2.out rfl
          obtain ⟨a4, y4⟩ := src_cell (w := w2) (i := 4) (v := (.string ⟨#[]⟩)) HR2.out rfl
          go_wp2
          have HR := Lib.hid HR2.out
          have HSe := Lib.hid HS2.out
          have Ke := Lib.hid K2.out
          have st := store5 HR.out (.string x.name) (.bool x.front) (.string x.cond) (.string x.strip) (.string x.add)
          refine bodyPost_ret (v := .agg #[.string x.name, .bool x.front, .string x.cond, .string x.strip, .string x.add]) (results_cell_row (p := 2) (ty := 51) rfl _ _ w.heap.size _ _ _ _ rfl st.1 Tryz.underlying51 rfl infoAffix) rfl
            ⟨x, k2, rfl, ⟨xn, xc, xs, xa⟩, by omega, HSe.out.low (st.2.1.below (by omega) (by omega)), Ke.out.then_new st.2.1 (Nat.le_refl _)⟩
end Go.Proofs.YtndfhmphlomeiaaGreatDoor
/- Derivations as arguments: how one is opened; szDerivation, toDerivation, eqDerivation. No condition but the readings. -/
namespace Go.Proofs.YtndfhmphlomeiaaGreatDoor
open Go.ChangeShapes Go.WideShapes Go.ChangeAt Go.RowKit
def DerR (w : World) (v : Value) (x : DerD) : Prop := ∃ u, v = .agg #[.string x.stem, u] ∧ x.stem.size ≤ maxLen ∧ Strs w u x.affixes
def DerW (w : World) (lo hi : Nat) (v : Value) (x : DerD) : Prop := ∃ u, v = .agg #[.string x.stem, u] ∧ x.stem.size ≤ maxLen ∧ StrsW w lo hi u x.affixes
theorem DerR.below {w w' : World} {v x} (h : DerR w v x) (hb : Below w.heap.size w w') : DerR w' v x := by obtain ⟨s, e, h1, h2⟩ := h; exact ⟨s, e, h1, h2.below hb⟩
theorem DerW.below {w w' : World} {lo hi v x} (h : DerW w lo hi v x) (hb : Below w.heap.size w w') : DerW w' lo hi v x := by obtain ⟨s, e, h1, h2⟩ := h; exact ⟨s, e, h1, h2.below hb⟩
theorem DerW.kept {w w' : World} {lo hi lo' hi' v x} (h : DerW w lo hi v x) (hb : Kept lo' hi' w w') (hd : hi ≤ lo' ∨ hi' ≤ lo) : DerW w' lo hi v x := by obtain ⟨s, e, h1, h2⟩ := h; exact ⟨s, e, h1, h2.kept hb hd⟩
theorem DerW.read {w : World} {lo hi v x} (h : DerW w lo hi v x) : DerR w v x := by obtain ⟨s, e, h1, h2⟩ := h; exact ⟨s, e, h1, h2.read⟩
theorem DerW.mono {w : World} {lo hi lo' hi' v x} (h : DerW w lo hi v x) (hl : lo' ≤ lo) (hh : hi ≤ hi') : DerW w lo' hi' v x := by obtain ⟨s, e, h1, h2⟩ := h; exact ⟨s, e, h1, h2.mono hl hh⟩
theorem DerR.shape {w : World} {v x} (h : DerR w v x) : ∃ a c, v = .agg #[.string x.stem, .slice a x.affixes.length c] := by
  obtain ⟨s, rfl, -, h2⟩ := h
  obtain ⟨a, c, rfl, _⟩ := h2.shape
  exact ⟨a, c, rfl⟩
theorem DerW.shape {w : World} {lo hi v x} (h : DerW w lo hi v x) : ∃ a c, v = .agg #[.string x.stem, .slice a x.affixes.length c] := h.read.shape
end Go.Proofs.YtndfhmphlomeiaaGreatDoor
/- A grammar and a derivation that are drawn beside each other: what stands, and what an append to the derivation leaves. No condition. -/
namespace Go.Proofs.YtndfhmphlomeiaaGreatDoor
open Go.RowKit
theorem results_cc {P : Program} {fn : Func} {p q : Tmp} {ty ty2 : TypeId} (h : fn.results = #[.cell p ty, .cell q ty2]) (tmps : Array Value) (w : World) (g g2 : Nat) (t t2 : TypeId) (cs cs2 : Array Value) (fr fr2 : Nat × Nat) (d d2 : TypeDesc)
    (hp : tmps.getD p undef = .pointer (some ⟨g, 0, none⟩)) (hg : w.heap[g]? = some (.cells cs t fr)) (hq : tmps.getD q undef = .pointer (some ⟨g2, 0, none⟩)) (hg2 : w.heap[g2]? = some (.cells cs2 t2 fr2))
    (hu : P.underlying ty = some d) (hd : (match d with | .struct _ | .array _ _ => true | _ => false) = true) (hi : (P.info? ty).map (·.size) = some cs.size)
    (hu2 : P.underlying ty2 = some d2) (hd2 : (match d2 with | .struct _ | .array _ _ => true | _ => false) = true) (hi2 : (P.info? ty2).map (·.size) = some cs2.size) :
    (results fn tmps).run P w = .ok (.tuple #[.agg cs, .agg cs2]) w := by
  have hp' : tmps[p]?.getD undef = .pointer (some ⟨g, 0, none⟩) := by simpa using hp
  have hq' : tmps[q]?.getD undef = .pointer (some ⟨g2, 0, none⟩) := by simpa using hq
  simp [results, h, hp', hq', asAddr, run_loadVar_row w g t ty cs fr d hg hu hd hi, run_loadVar_row w g2 t2 ty2 cs2 fr2 d2 hg2 hu2 hd2 hi2]
theorem infoDerQ : (Tryz.prog.info? 37).map (·.size) = some 2 := by kernel_rfl
/-- What stands: r1 and r2 are the results' cells, gb and db the boxes, Bq the base of the derivation's list. -/
structure EndW (w wF : World) (Bq g gb db : Nat) (v1 v2 : Value) (s : ByteArray) (u : Value) (l : List ByteArray) : Prop where
  box : BoxG wF gb v1 v2
  der : wF.heap[db]? = some (.cells #[.string s, u] 37 (0, 0))
  r1 : wF.heap[w.heap.size]? = some (.cells #[.slice none 0 0, .slice none 0 0] 27 (0, 0))
  r2 : wF.heap[w.heap.size + 1]? = some (.cells #[.string ⟨#[]⟩, .slice none 0 0] 37 (0, 0))
  read : ∃ x, GraW wF (g + 1) gb (.agg #[v1, v2]) x ∧ GraN x
  own : OwnS wF Bq u l
  hl : ∀ s ∈ l, s.size ≤ maxLen
  hs : s.size ≤ maxLen
  below : Below w.heap.size w wF
  og : w.heap.size + 2 ≤ g
  ob : g < gb
  od : gb < db
  oq : db < Bq
theorem EndW.ltd {w wF Bq g gb db v1 v2 s u l} (h : EndW w wF Bq g gb db v1 v2 s u l) : db < wF.heap.size := (Array.getElem?_eq_some_iff.1 h.der).1
/-- Other blocks than g have turned, if any. -/
theorem EndW.kept {w wF w' Bq g gb db v1 v2 s u l} (h : EndW w wF Bq g gb db v1 v2 s u l) (hk : Kept g (g + 1) wF w') : EndW w w' Bq g gb db v1 v2 s u l := by
  have h1 := h.og
  have h2 := h.ob
  have h3 := h.od
  have h4 := h.oq
  have h5 := h.ltd
  obtain ⟨x, hx, hn⟩ := h.read
  exact ⟨h.box.kept hk (.inr (by omega)), (hk.block db h5 (.inr (by omega))).trans h.der, (hk.block _ (by omega) (.inl (by omega))).trans h.r1, (hk.block _ (by omega) (.inl (by omega))).trans h.r2, ⟨x, hx.kept hk (.inr (Nat.le_refl _)), hn⟩,
    own_frame h.own fun k e => hk.block k (World.ownsRow.lt h.own k e).2 (.inr (by have := (World.ownsRow.lt h.own k e).1; omega)), h.hl, h.hs, h.below.trans (hk.below (by omega) (by omega)), h1, h2, h3, h4⟩
theorem EndW.under {w wF w' Bq g gb db v1 v2 s u l} (h : EndW w wF Bq g gb db v1 v2 s u l) (hb : Below wF.heap.size wF w') : EndW w w' Bq g gb db v1 v2 s u l := h.kept (Kept.of_below hb)
theorem EndW.rebase {w wF Bq B2 g gb db v1 v2 s} (h : EndW w wF Bq g gb db v1 v2 s (.slice none 0 0) []) (hB : db < B2) : EndW w wF B2 g gb db v1 v2 s (.slice none 0 0) [] :=
  ⟨h.box, h.der, h.r1, h.r2, h.read, World.ownsRow_nil _ _ _ _, h.hl, h.hs, h.below, h.og, h.ob, h.od, hB⟩
/-- Another stem. -/
theorem EndW.word {w wF Bq g gb db v1 v2 s u l} (h : EndW w wF Bq g gb db v1 v2 s u l) (t : ByteArray) (ht : t.size ≤ maxLen) :
    (wF.cell? ⟨db, 0, none⟩ = some (.string s) ∧ wF.frozen? ⟨db, 0, none⟩ = false) ∧ EndW w (wF.setCell ⟨db, 0, none⟩ (.string t)) Bq g gb db v1 v2 t u l ∧ KeepQ Bq db db wF (wF.setCell ⟨db, 0, none⟩ (.string t)) := by
  have h1 := h.og
  have h2 := h.ob
  have h3 := h.od
  have h4 := h.oq
  have h5 := h.ltd
  obtain ⟨x, hx, hn⟩ := h.read
  have hb : ∀ k, k ≠ db → (wF.setCell ⟨db, 0, none⟩ (.string t)).heap[k]? = wF.heap[k]? := fun k hk => Below.heap_setCell _ _ _ _ (show k ≠ db from hk)
  have hk : Kept db (db + 1) wF (wF.setCell ⟨db, 0, none⟩ (.string t)) := kept_setCell (Nat.le_refl _) (Nat.lt_succ_self _) _
  refine ⟨src_cell (i := 0) h.der rfl, ⟨h.box.set _ (by omega), ?_, (hb _ (by omega)).trans h.r1, (hb _ (by omega)).trans h.r2, ⟨x, hx.kept hk (.inl (by omega)), hn⟩, own_frame h.own fun k e => hb k (by have := (World.ownsRow.lt h.own k e).1; omega), h.hl, ht, h.below.trans (hk.below (by omega) (by omega)), h1, h2, h3, h4⟩, KeepQ.of_set⟩
  simpa using src_set (i := 0) (u := .string t) h.der
/-- One affix more. -/
theorem EndW.push {w wX w8 Bq g gb db v1 v2 s u l} (h : EndW w wX Bq g gb db v1 v2 s u l) (hB : Bq ≤ wX.heap.size) (hgr : wX.grownBy w8 u.ownBlock) {u' : Value} {l' : List ByteArray} (hown : OwnS w8 Bq u' l') (hl : ∀ s ∈ l', s.size ≤ maxLen) :
    (w8.cell? ⟨db, 1, none⟩ = some u ∧ w8.frozen? ⟨db, 1, none⟩ = false) ∧ EndW w (w8.setCell ⟨db, 1, none⟩ u') Bq g gb db v1 v2 s u' l' ∧ KeepQ Bq db db wX (w8.setCell ⟨db, 1, none⟩ u') := by
  have h1 := h.og
  have h2 := h.ob
  have h3 := h.od
  have h4 := h.oq
  have h5 := h.ltd
  obtain ⟨x, hx, hn⟩ := h.read
  have hr : ∀ k, u.ownBlock = some k → Bq ≤ k := fun k e => (World.ownsRow.lt h.own k e).1
  have hq : ∀ k, k < Bq → w8.heap[k]? = wX.heap[k]? := fun k hk => hgr.block k (by omega) (fun e => by have := hr k e.symm; omega)
  have hd8 := (hq db h4).trans h.der
  have hb : ∀ k, k ≠ db → (w8.setCell ⟨db, 1, none⟩ u').heap[k]? = w8.heap[k]? := fun k hk => Below.heap_setCell _ _ _ _ (show k ≠ db from hk)
  have hk8 : Kept Bq wX.heap.size wX w8 := ⟨hgr.os, hgr.tape, hgr.output, hgr.size, fun k hk ho => by
    rcases ho with ho | ho
    · exact hq k ho
    · omega⟩
  have hk9 : Kept db (db + 1) w8 (w8.setCell ⟨db, 1, none⟩ u') := kept_setCell (Nat.le_refl _) (Nat.lt_succ_self _) _
  refine ⟨src_cell (i := 1) hd8 rfl, ⟨?_, ?_, ?_, ?_, ⟨x, (hx.kept hk8 (.inl (by omega))).kept hk9 (.inl (by omega)), hn⟩, own_frame hown fun k e => hb k (by have := (World.ownsRow.lt hown k e).1; omega), hl, h.hs, ?_, h1, h2, h3, h4⟩, ?_⟩
  · exact ((hb gb (by omega)).trans (hq gb (by omega))).trans h.box
  · simpa using src_set (i := 1) (u := u') hd8
  · exact ((hb _ (by omega)).trans (hq _ (by omega))).trans h.r1
  · exact ((hb _ (by omega)).trans (hq _ (by omega))).trans h.r2
  · exact (h.below.trans (hk8.below (by omega) h.below.size)).trans (hk9.below (by omega) (Nat.le_trans h.below.size hgr.size))
  · exact (KeepQ.of_grown hgr hr hB).trans KeepQ.of_set
/-- What is drawn. -/
def DrwW (B : Nat) (w' : World) (v1 v2 : Value) (s : ByteArray) (u : Value) : Prop := (∃ x, GraW w' B w'.heap.size (.agg #[v1, v2]) x ∧ GraN x) ∧ ∃ l, DerW w' B w'.heap.size (.agg #[.string s, u]) ⟨s, l⟩
theorem EndW.done {w wF Bq g gb db v1 v2 s u l} (h : EndW w wF Bq g gb db v1 v2 s u l) :
    ((((wF.setCell ⟨w.heap.size, 0, none⟩ v1).setCell ⟨w.heap.size, 1, none⟩ v2).setCell ⟨w.heap.size + 1, 0, none⟩ (.string s)).setCell ⟨w.heap.size + 1, 1, none⟩ u).heap[w.heap.size]? = some (.cells #[v1, v2] 27 (0, 0)) ∧
    ((((wF.setCell ⟨w.heap.size, 0, none⟩ v1).setCell ⟨w.heap.size, 1, none⟩ v2).setCell ⟨w.heap.size + 1, 0, none⟩ (.string s)).setCell ⟨w.heap.size + 1, 1, none⟩ u).heap[w.heap.size + 1]? = some (.cells #[.string s, u] 37 (0, 0)) ∧
    DrwW w.heap.size ((((wF.setCell ⟨w.heap.size, 0, none⟩ v1).setCell ⟨w.heap.size, 1, none⟩ v2).setCell ⟨w.heap.size + 1, 0, none⟩ (.string s)).setCell ⟨w.heap.size + 1, 1, none⟩ u) v1 v2 s u ∧
    Below w.heap.size w ((((wF.setCell ⟨w.heap.size, 0, none⟩ v1).setCell ⟨w.heap.size, 1, none⟩ v2).setCell ⟨w.heap.size + 1, 0, none⟩ (.string s)).setCell ⟨w.heap.size + 1, 1, none⟩ u) := by
  have h1 := h.og
  have h2 := h.ob
  have h3 := h.od
  have h4 := h.oq
  have h5 := h.ltd
  have st1 := store2 h.r1 v1 v2
  have st2 := store2 ((st1.2.1.block _ (by omega) (.inr (Nat.le_refl _))).trans h.r2) (.string s) u
  obtain ⟨x, hx, hn⟩ := h.read
  have hsz : ((((wF.setCell ⟨w.heap.size, 0, none⟩ v1).setCell ⟨w.heap.size, 1, none⟩ v2).setCell ⟨w.heap.size + 1, 0, none⟩ (.string s)).setCell ⟨w.heap.size + 1, 1, none⟩ u).heap.size = wF.heap.size := st2.2.2.trans st1.2.2
  refine ⟨(st2.2.1.block _ (by rw [st1.2.2]; omega) (.inl (by omega))).trans st1.1, st2.1, ⟨⟨x, ((hx.kept st1.2.1 (.inr (by omega))).kept st2.2.1 (.inr (by omega))).mono (by omega) (by rw [hsz]; omega), hn⟩, l, u, rfl, h.hs, ?_⟩, (h.below.trans (st1.2.1.below (by omega) h.below.size)).trans (st2.2.1.below (by omega) (by rw [st1.2.2]; exact h.below.size))⟩
  have ho : OwnS wF Bq u l := h.own
  have h6 := ((ho.strs h.hl).kept st1.2.1 (.inr (by omega))).kept st2.2.1 (.inr (by omega))
  exact h6.mono (by omega) (by rw [hsz]; exact Nat.le_refl _)
/-- What stands behind each statement. -/
def WoAt (w wz : World) (g gb : Nat) (v1 v2 : Value) (bs : List UInt8) (n : Nat) : Prop := ∃ (Bq : Nat) (sd : ByteArray) (a9 : Option Addr) (c9 : Nat) (l : List ByteArray) (k' : Nat), EndW w wz Bq g gb (gb + 1) v1 v2 sd (.slice a9 l.length c9) l ∧ Bq ≤ wz.heap.size ∧ 20 * l.length ≤ n ∧ k' ≤ n ∧ SrcW wz g bs k'
def IfAt (w wz : World) (g gb : Nat) (v1 v2 : Value) (bs : List UInt8) (x : GraD) (s0 : ByteArray) (b : Bool) : Prop := ∃ k', EndW w wz (gb + 2) g gb (gb + 1) v1 v2 s0 (.slice none 0 0) [] ∧ gb + 2 ≤ wz.heap.size ∧ GraW wz (g + 1) gb (.agg #[v1, v2]) x ∧ (b = true → 0 < x.stems.length) ∧ k' ≤ 5000 ∧ SrcW wz g bs k'
/-- The stem's box behind the picking. -/
def XAt (w wz : World) (g gb : Nat) (v1 v2 : Value) (bs : List UInt8) (s0 : ByteArray) (xb : Nat) : Prop := ∃ (wd : ByteArray) (a3 : Option Addr) (c3 : Nat) (us : List ByteArray) (k' : Nat), EndW w wz (gb + 2) g gb (gb + 1) v1 v2 s0 (.slice none 0 0) [] ∧ wz.heap[xb]? = some (.cells #[.string wd, .slice a3 us.length c3] 59 (0, 0)) ∧ gb + 1 < xb ∧
    (∀ i (_ : i < us.length), ∃ b3 o3, a3 = some ⟨b3, o3, none⟩ ∧ g + 1 ≤ b3 ∧ b3 < gb ∧ wz.cell? ⟨b3, o3 + i, none⟩ = some (.string us[i]) ∧ us[i].size ≤ maxLen) ∧ wd.size ≤ maxLen ∧ us.length ≤ 60 ∧ k' ≤ 6000 ∧ SrcW wz g bs k'
theorem EndW.lowNil {w wF w' Bq g gb db v1 v2 s} (h : EndW w wF Bq g gb db v1 v2 s (.slice none 0 0) []) (hb : Below (db + 1) wF w') : EndW w w' Bq g gb db v1 v2 s (.slice none 0 0) [] := by
  have h1 := h.og
  have h2 := h.ob
  have h3 := h.od
  have h4 := h.oq
  have h5 := h.ltd
  obtain ⟨x, hx, hn⟩ := h.read
  have hk : Kept gb w'.heap.size wF w' := ⟨hb.os, hb.tape, hb.output, hb.size, fun k hk ho => by
    rcases ho with ho | ho
    · exact hb.block k (by omega)
    · have := hb.size; omega⟩
  exact ⟨(hb.block gb (by omega)).trans h.box, (hb.block db (by omega)).trans h.der, (hb.block _ (by omega)).trans h.r1, (hb.block _ (by omega)).trans h.r2, ⟨x, hx.kept hk (.inl (Nat.le_refl _)), hn⟩, World.ownsRow_nil _ _ _ _, h.hl, h.hs, h.below.trans (hb.mono (by omega)), h1, h2, h3, h4⟩
/-- A stem of a grammar that reads, and its uses. -/
theorem GraW.stemAt {w : World} {lo hi : Nat} {v1 : Value} {a2 : Option Addr} {n2 c2 : Nat} {x : GraD} (h : GraW w lo hi (.agg #[v1, .slice a2 n2 c2]) x) (j : Nat) (hj : j < x.stems.length) : ∃ b off a3 c3, a2 = some ⟨b, off, none⟩ ∧ w.cell? ⟨b, off + j * 2, none⟩ = some (.string x.stems[j].word) ∧ w.cell? ⟨b, off + j * 2 + 1, none⟩ = some (.slice a3 x.stems[j].uses.length c3) ∧ x.stems[j].word.size ≤ maxLen ∧
    ∀ i (hi2 : i < x.stems[j].uses.length), ∃ b3 o3, a3 = some ⟨b3, o3, none⟩ ∧ lo ≤ b3 ∧ b3 < hi ∧ w.cell? ⟨b3, o3 + i, none⟩ = some (.string x.stems[j].uses[i]) ∧ x.stems[j].uses[i].size ≤ maxLen := by
  obtain ⟨s1, s2, e, -, us, hu, hsl, h5⟩ := h
  injection e with e
  simp only [Array.mk.injEq, List.cons.injEq, and_true] at e
  obtain ⟨e1, e2⟩ := e
  subst e1 e2
  obtain ⟨_, a, c, h1, h2, h3, h4⟩ := hsl.read
  injection h1 with e1 e2 e3
  subst e1 e3
  have hj' : j < us.length := by omega
  have g := fun i hi => flat_get stemL 2 stemL_len (x.stems.zip us) j (by simp; omega) i hi
  obtain ⟨b, off, e, hc0⟩ := h4 _ _ (g 0 (by omega))
  subst e
  obtain ⟨b', off', e, hc1⟩ := h4 _ _ (g 1 (by omega))
  cases e
  obtain ⟨hw, ⟨hlen, a3, c3, e3, hn3, hc3, hor⟩, hsz⟩ := h5 j hj hj'
  have hc1' : w.cell? ⟨b, off + j * 2 + 1, none⟩ = some us[j] := by simpa [stemL, Nat.add_assoc] using hc1
  rw [e3] at hc1'
  refine ⟨b, off, a3, c3, rfl, by simpa [stemL] using hc0, hc1', hw, fun i hi2 => ?_⟩
  rcases hor with h0 | ⟨gg, o3, cur, ea, hlo, hhi, hh, hs, ht⟩
  · omega
  · refine ⟨gg, o3, ea, hlo, hhi, ?_, hsz _ (List.getElem_mem _)⟩
    have hg := SlW.get ht (show i < x.stems[j].uses.length * 1 by omega)
    rw [List.getElem?_map, List.getElem?_eq_getElem hi2] at hg
    simp [World.cell?, hh, hg]
theorem GraW.stemS {w : World} {lo hi : Nat} {v1 : Value} {a2 : Option Addr} {n2 c2 : Nat} {x : GraD} (h : GraW w lo hi (.agg #[v1, .slice a2 n2 c2]) x) (hn : GraN x) (j : Nat) (hj : j < x.stems.length) : ∃ (sm : StemD) (b off : Nat) (a3 : Option Addr) (c3 : Nat), a2 = some ⟨b, off, none⟩ ∧ w.cell? ⟨b, off + j * 2, none⟩ = some (.string sm.word) ∧ w.cell? ⟨b, off + j * 2 + 1, none⟩ = some (.slice a3 sm.uses.length c3) ∧ sm.word.size ≤ maxLen ∧ sm.uses.length ≤ 60 ∧
    ∀ i (hi2 : i < sm.uses.length), ∃ b3 o3, a3 = some ⟨b3, o3, none⟩ ∧ lo ≤ b3 ∧ b3 < hi ∧ w.cell? ⟨b3, o3 + i, none⟩ = some (.string sm.uses[i]) ∧ sm.uses[i].size ≤ maxLen := by
  obtain ⟨b, off, a3, c3, h1, h2, h3, h4, h5⟩ := h.stemAt j hj
  exact ⟨x.stems[j], b, off, a3, c3, h1, h2, h3, h4, (hn.st _ (List.getElem_mem _)).2.1, h5⟩
end Go.Proofs.YtndfhmphlomeiaaGreatDoor
/- What DrawSameGrammar gives, and what its steps leave. Condition: Go's own bound on the bytes of a slice. -/
namespace Go.Proofs.YtndfhmphlomeiaaGreatDoor
open Go.RowKit
/-- append(own, list...) at a step of a region that draws its order, for any kind of element. -/
theorem step_copy {ops : Array Oper} {o : Oper} {a : Act} {K : Act → World → Prop} {Q : Exit → Act → World → Prop} {E : Prop} {w : World} (hgd : o.guard = none) (s x : Operand) (t : TypeId)
    (ho : o.op = .call { callee := .builtin .append, args := #[s, x], argTypes := #[t, t] })
    (B : Nat) (e : TypeId) (z : Value) (size bytes : Nat) (ht : Tryz.prog.underlying t = some (.slice e)) (hinfo : (Tryz.prog.info? e).map (fun i => (i.zero, i.size, i.bytes)) = some (some z, size, bytes)) (hz : z.cells.size = size) (hsz : 0 < size)
    (g0 n0 c0 : Nat) (xs0 : List Value) (hs : a.eval s = .slice (some ⟨g0, 0, none⟩) n0 c0) (hown : w.ownsRow B e size (.slice (some ⟨g0, 0, none⟩) n0 c0) n0 xs0) (b : Option Addr) (m c : Nat) (xs : List Value) (hx : a.eval x = .slice b m c) (hr : SlR w size (.slice b m c) m xs)
    (h1 : ∀ u ∈ xs, u.oneCell' = true) (hm : n0 + m ≤ 1000) (hby : bytes ≤ 1000) (hB : B ≤ w.heap.size)
    (k : ∀ g cap w', w'.ownsRow B e size (.slice (some ⟨g, 0, none⟩) (n0 + m) cap) (n0 + m) (xs0 ++ xs) → w.grownBy w' (some g0) → (g = g0 ∨ g = w.heap.size) → K (a.put o.dst (.slice (some ⟨g, 0, none⟩) (n0 + m) cap)) w') :
    if Region.wanted o (yielded ops a.tmps) = true then Oper.wp Tryz.prog o a w K Q else E := by
  have hw : Region.wanted o (yielded ops a.tmps) = true := by simp [Region.wanted, hgd]
  rw [if_pos hw]
  obtain ⟨i, hi, hz0, hz1, hz2⟩ := info_parts hinfo
  obtain ⟨hlen, b', c', eb, hmc, hcm, hcs⟩ := hr
  injection eb with e1 e2 e3
  subst e1 e3
  have hc0 : n0 ≤ c0 := by
    obtain ⟨_, cc, e, h2, -⟩ := own_shape hown
    injection e with e1 e2 e3
    omega
  cases b with
  | none =>
    have hxs : xs = [] := by
      cases xs with
      | nil => rfl
      | cons y r => obtain ⟨b, o, e, -⟩ := hcs 0 y rfl; cases e
    subst hxs
    have hm0 : m = 0 := by
      simp only [List.length_nil] at hlen
      rcases Nat.mul_eq_zero.1 hlen.symm with h | h
      · exact h
      · omega
    subst hm0
    have hrun : (Builtin.append_ #[t, t] o.type #[.slice (some ⟨g0, 0, none⟩) n0 c0, .slice none 0 c]).run Tryz.prog w = .ok (.slice (some ⟨g0, 0, none⟩) n0 c0) w := by
      simp [Builtin.append_, run_underlying ht, sizeOf, typeInfo, hi, Builtin.lenOf, Builtin.firstCells, hc0, storeCells]
    unfold Oper.wp execOp
    simp only [ho, resolve, invoke, builtin, Sem.run_bind, Sem.run_pure, Result.andThen_ok, List.map_toArray, List.map_cons, List.map_nil, hs, hx, hrun]
    exact k g0 c0 w (by simpa using hown) ⟨rfl, rfl, rfl, Nat.le_refl _, fun _ _ _ => rfl⟩ (.inl rfl)
  | some ad =>
    have hb2 : (n0 + m) * bytes ≤ 1000 * 1000 := Nat.mul_le_mul hm hby
    obtain ⟨v', w', hrr, h2, h3, h4, h5⟩ := run_append_own_at (P := Tryz.prog) w B t o.type e i z size bytes ht hi hz0 hz1 hz2 hz hsz _ n0 xs0 hown ad m c xs hlen (fun j u hj => by
      obtain ⟨b, off, ea, hc⟩ := hcs j u hj
      cases ea
      have : (⟨b, off, none⟩ : Addr).add j = ⟨b, off + j, none⟩ := by unfold Addr.add; split <;> simp_all
      rw [this]; exact hc) h1 (by unfold maxLen; omega) (by omega) hB
    obtain ⟨g, cap, rfl⟩ : ∃ g cap, v' = .slice (some ⟨g, 0, none⟩) (n0 + m) cap := by
      rcases h2.2 with ⟨h6, h0⟩ | ⟨g, cap, cur, hv, _⟩
      · have := (h4.1 h6).1; simp at this
      · exact ⟨g, cap, hv⟩
    unfold Oper.wp execOp
    simp only [ho, resolve, invoke, builtin, Sem.run_bind, Sem.run_pure, Result.andThen_ok, List.map_toArray, List.map_cons, List.map_nil, hs, hx, hrr]
    refine k g cap w' h2 h3 ?_
    rcases h5 with h6 | h6
    · exact .inl (Option.some.inj h6)
    · exact .inr (Option.some.inj h6)
def OwnA (w : World) (B : Nat) (v : Value) (n : Nat) (xs : List Value) : Prop := w.ownsRow B 51 5 v n xs
def OwnT (w : World) (B : Nat) (v : Value) (n : Nat) (xs : List Value) : Prop := w.ownsRow B 59 2 v n xs
theorem OwnA.below {w w' : World} {B v n xs} (h : OwnA w B v n xs) (hb : Below w.heap.size w w') : OwnA w' B v n xs := own_below h hb
theorem OwnT.below {w w' : World} {B v n xs} (h : OwnT w B v n xs) (hb : Below w.heap.size w w') : OwnT w' B v n xs := own_below h hb
theorem OwnA.grown {w w' : World} {B g n c xs r} (h : OwnA w B (.slice (some ⟨g, 0, none⟩) n c) n xs) (hg : w.grownBy w' (some r)) (hne : g ≠ r) : OwnA w' B (.slice (some ⟨g, 0, none⟩) n c) n xs :=
  own_frame h fun k hk => hg.block k (World.ownsRow.lt h k hk).2 (fun e => hne ((Option.some.inj hk).trans (Option.some.inj e)))
theorem OwnT.grown {w w' : World} {B g n c xs r} (h : OwnT w B (.slice (some ⟨g, 0, none⟩) n c) n xs) (hg : w.grownBy w' (some r)) (hne : g ≠ r) : OwnT w' B (.slice (some ⟨g, 0, none⟩) n c) n xs :=
  own_frame h fun k hk => hg.block k (World.ownsRow.lt h k hk).2 (fun e => hne ((Option.some.inj hk).trans (Option.some.inj e)))
theorem OwnA.set {w : World} {B g n c xs b i u} (h : OwnA w B (.slice (some ⟨g, 0, none⟩) n c) n xs) (hne : g ≠ b) : OwnA (w.setCell ⟨b, i, none⟩ u) B (.slice (some ⟨g, 0, none⟩) n c) n xs :=
  own_frame h fun k hk => Below.heap_setCell _ _ _ _ (by have e : g = k := Option.some.inj hk; show k ≠ b; omega)
theorem OwnT.set {w : World} {B g n c xs b i u} (h : OwnT w B (.slice (some ⟨g, 0, none⟩) n c) n xs) (hne : g ≠ b) : OwnT (w.setCell ⟨b, i, none⟩ u) B (.slice (some ⟨g, 0, none⟩) n c) n xs :=
  own_frame h fun k hk => Below.heap_setCell _ _ _ _ (by have e : g = k := Option.some.inj hk; show k ≠ b; omega)
theorem OwnA.lt {w : World} {B g n c xs} (h : OwnA w B (.slice (some ⟨g, 0, none⟩) n c) n xs) : B ≤ g ∧ g < w.heap.size := World.ownsRow.lt h g rfl
theorem OwnT.lt {w : World} {B g n c xs} (h : OwnT w B (.slice (some ⟨g, 0, none⟩) n c) n xs) : B ≤ g ∧ g < w.heap.size := World.ownsRow.lt h g rfl
theorem affs_oneQ (l : List AffD) : ∀ u ∈ l.flatMap affL, u.oneCell' = true := fun u hu => by
  obtain ⟨a, -, h⟩ := List.mem_flatMap.1 hu
  exact affL_oneQ u h
theorem stems_oneQ (l : List StemD) (us : List Value) (h : ∀ u ∈ us, ∃ a n c, u = .slice a n c) : ∀ u ∈ (l.zip us).flatMap stemL, u.oneCell' = true := fun u hu => by
  obtain ⟨⟨s, v⟩, hp, hm⟩ := List.mem_flatMap.1 hu
  obtain ⟨a, n, c, e⟩ := h v (List.of_mem_zip hp).2
  subst e
  exact stm_oneQ u hm
theorem alloc_sameQ (w : World) (O O2 : Obj) (k : Nat) (hk : k < w.heap.size) : (w.alloc O).heap[k]? = (w.alloc O2).heap[k]? := (Below.heap_alloc w O k hk).trans (Below.heap_alloc w O2 k hk).symm
/-- The copy. -/
structure CopyG (w5 wz : World) (g ga bx gA cA gB cB : Nat) (x : GraD) (us : List Value) : Prop where
  box : BoxG wz bx (.slice (some ⟨gA, 0, none⟩) x.affixes.length cA) (.slice (some ⟨gB, 0, none⟩) x.stems.length cB)
  aff : OwnA wz (ga + 1) (.slice (some ⟨gA, 0, none⟩) x.affixes.length cA) x.affixes.length (x.affixes.flatMap affL)
  stm : OwnT wz (ga + 1) (.slice (some ⟨gB, 0, none⟩) x.stems.length cB) x.stems.length ((x.stems.zip us).flatMap stemL)
  len : us.length = x.stems.length
  uses : ∀ j (_ : j < x.stems.length) (_ : j < us.length), StrsW w5 (g + 1) ga us[j] x.stems[j].uses
  xb : ga + 1 ≤ bx
  ab : gA ≠ gB
  xa : bx ≠ gA
  xs : bx ≠ gB
  low : Below (ga + 1) w5 wz
def CopyAt (w5 wz : World) (g ga bx : Nat) (x : GraD) (us : List Value) : Prop := ∃ gA cA gB cB, CopyG w5 wz g ga bx gA cA gB cB x us
def TwoG (w' : World) (v1 v2 u1 u2 : Value) : Prop := ∃ x y, GraR w' (.agg #[v1, v2]) x ∧ GraR w' (.agg #[u1, u2]) y
/-- What stands behind the switch. -/
structure EndS (w wz : World) (g ga bx : Nat) (v1 v2 u1 u2 : Value) : Prop where
  box : BoxG wz ga v1 v2
  box2 : BoxG wz bx u1 u2
  r1 : wz.heap[w.heap.size]? = some (.cells #[.slice none 0 0, .slice none 0 0] 27 (0, 0))
  r2 : wz.heap[w.heap.size + 1]? = some (.cells #[.slice none 0 0, .slice none 0 0] 27 (0, 0))
  read : ∃ x y, GraW wz (g + 1) ga (.agg #[v1, v2]) x ∧ GraW wz (g + 1) wz.heap.size (.agg #[u1, u2]) y
  below : Below w.heap.size w wz
  og : w.heap.size + 2 ≤ g
  oa : g < ga
  ox : ga < bx
theorem EndS.done {w wF : World} {g ga bx : Nat} {v1 v2 u1 u2 : Value} (h : EndS w wF g ga bx v1 v2 u1 u2) :
    ((((wF.setCell ⟨w.heap.size, 0, none⟩ v1).setCell ⟨w.heap.size, 1, none⟩ v2).setCell ⟨w.heap.size + 1, 0, none⟩ u1).setCell ⟨w.heap.size + 1, 1, none⟩ u2).heap[w.heap.size]? = some (.cells #[v1, v2] 27 (0, 0)) ∧
    ((((wF.setCell ⟨w.heap.size, 0, none⟩ v1).setCell ⟨w.heap.size, 1, none⟩ v2).setCell ⟨w.heap.size + 1, 0, none⟩ u1).setCell ⟨w.heap.size + 1, 1, none⟩ u2).heap[w.heap.size + 1]? = some (.cells #[u1, u2] 27 (0, 0)) ∧
    TwoG ((((wF.setCell ⟨w.heap.size, 0, none⟩ v1).setCell ⟨w.heap.size, 1, none⟩ v2).setCell ⟨w.heap.size + 1, 0, none⟩ u1).setCell ⟨w.heap.size + 1, 1, none⟩ u2) v1 v2 u1 u2 ∧
    Below w.heap.size w ((((wF.setCell ⟨w.heap.size, 0, none⟩ v1).setCell ⟨w.heap.size, 1, none⟩ v2).setCell ⟨w.heap.size + 1, 0, none⟩ u1).setCell ⟨w.heap.size + 1, 1, none⟩ u2) := by
  have h1 := h.og
  have h2 := h.oa
  have h3 := h.ox
  have h5 := h.box.lt
  have st1 := store2 h.r1 v1 v2
  have st2 := store2 ((st1.2.1.block _ (by omega) (.inr (Nat.le_refl _))).trans h.r2) u1 u2
  obtain ⟨x, y, hx, hy⟩ := h.read
  refine ⟨(st2.2.1.block _ (by rw [st1.2.2]; omega) (.inl (by omega))).trans st1.1, st2.1, ⟨x, y, ?_, ?_⟩, (h.below.trans (st1.2.1.below (by omega) h.below.size)).trans (st2.2.1.below (by omega) (by rw [st1.2.2]; exact h.below.size))⟩
  · exact ((hx.kept st1.2.1 (.inr (by omega))).kept st2.2.1 (.inr (by omega))).read
  · exact ((hy.kept st1.2.1 (.inr (by omega))).kept st2.2.1 (.inr (by omega))).read
theorem EndS.drew {w wF : World} {g ga bx : Nat} {v1 v2 u1 u2 : Value} (h : EndS w wF g ga bx v1 v2 u1 u2) : EndS w wF.drew g ga bx v1 v2 u1 u2 := ⟨h.box, h.box2, h.r1, h.r2, h.read, h.below.drew, h.og, h.oa, h.ox⟩
/-- The copy as it was made, or with other cells. -/
theorem copy_read {wz : World} {g ga gA cA gB cB : Nat} {A : List AffD} {S : List StemD} {us : List Value} (hg : g < ga) (hA : OwnA wz (ga + 1) (.slice (some ⟨gA, 0, none⟩) A.length cA) A.length (A.flatMap affL)) (hS : OwnT wz (ga + 1) (.slice (some ⟨gB, 0, none⟩) S.length cB) S.length ((S.zip us).flatMap stemL))
    (hl : us.length = S.length) (hu : ∀ j (_ : j < S.length) (_ : j < us.length), StrsW wz (g + 1) wz.heap.size us[j] S[j].uses) (hn : GraN ⟨A, S⟩) : GraW wz (g + 1) wz.heap.size (.agg #[.slice (some ⟨gA, 0, none⟩) A.length cA, .slice (some ⟨gB, 0, none⟩) S.length cB]) ⟨A, S⟩ :=
  ⟨_, _, rfl, ⟨(own_SlW hA).mono (by omega) (Nat.le_refl _), hn.af⟩, us, hl, (own_SlW hS).mono (by omega) (Nat.le_refl _), fun j h1 h2 => ⟨(hn.st _ (List.getElem_mem _)).1, hu j h1 h2⟩⟩
theorem CopyG.read {w5 wz : World} {g ga bx gA cA gB cB : Nat} {x : GraD} {us : List Value} (h : CopyG w5 wz g ga bx gA cA gB cB x us) (hg : g < ga) (hz : ga + 1 ≤ w5.heap.size) (hn : GraN x) : GraW wz (g + 1) wz.heap.size (.agg #[.slice (some ⟨gA, 0, none⟩) x.affixes.length cA, .slice (some ⟨gB, 0, none⟩) x.stems.length cB]) x := by
  have hk : Kept ga wz.heap.size w5 wz := ⟨h.low.os, h.low.tape, h.low.output, h.low.size, fun k hk ho => by
    rcases ho with ho | ho
    · exact h.low.block k (by omega)
    · have := h.low.size; omega⟩
  exact copy_read hg h.aff h.stm h.len (fun j h1 h2 => ((h.uses j h1 h2).kept hk (.inl (Nat.le_refl _))).mono (Nat.le_refl _) (by have := h.low.size; omega)) hn
/-- The world turns where the copy is not. -/
theorem CopyG.kept {w5 wz w' : World} {g ga bx gA cA gB cB : Nat} {x : GraD} {us : List Value} (h : CopyG w5 wz g ga bx gA cA gB cB x us) (hk : Kept g (g + 1) wz w') (_hz : ga + 1 ≤ w5.heap.size) (hg : g < ga) (w6 : World) (h6 : Kept g (g + 1) w5 w6) (hl : Below (ga + 1) w6 w') : CopyG w6 w' g ga bx gA cA gB cB x us :=
  ⟨h.box.kept hk (.inr (by have := h.xb; omega)), own_frame h.aff fun k e => hk.block k (World.ownsRow.lt h.aff k e).2 (.inr (by have := (World.ownsRow.lt h.aff k e).1; omega)), own_frame h.stm fun k e => hk.block k (World.ownsRow.lt h.stm k e).2 (.inr (by have := (World.ownsRow.lt h.stm k e).1; omega)), h.len,
    fun j h1 h2 => (h.uses j h1 h2).kept h6 (.inr (Nat.le_refl _)), h.xb, h.ab, h.xa, h.xs, hl⟩
/-- The first affix of the copy turns. -/
theorem EndS.front {w wz : World} {g ga bx gA cA gB cB : Nat} {v1 v2 : Value} {f : AffD} {F : List AffD} {S : List StemD} {us : List Value} (hE : EndS w wz g ga bx v1 v2 (.slice (some ⟨gA, 0, none⟩) (F.length + 1) cA) (.slice (some ⟨gB, 0, none⟩) S.length cB))
    (h : CopyG wz wz g ga bx gA cA gB cB ⟨f :: F, S⟩ us) (hn : GraN ⟨f :: F, S⟩) (b : Bool) :
    (wz.cell? ⟨gA, 1, none⟩ = some (.bool f.front) ∧ wz.frozen? ⟨gA, 1, none⟩ = false) ∧ EndS w (wz.setCell ⟨gA, 1, none⟩ (.bool b)) g ga bx v1 v2 (.slice (some ⟨gA, 0, none⟩) (F.length + 1) cA) (.slice (some ⟨gB, 0, none⟩) S.length cB) := by
  have h1 := hE.og
  have h2 := hE.oa
  have h3 := hE.ox
  have hA := h.aff.lt
  have hk : Kept gA (gA + 1) wz (wz.setCell ⟨gA, 1, none⟩ (.bool b)) := kept_setCell (Nat.le_refl _) (Nat.lt_succ_self _) _
  have hb : ∀ k, k ≠ gA → (wz.setCell ⟨gA, 1, none⟩ (.bool b)).heap[k]? = wz.heap[k]? := fun k hk => Below.heap_setCell _ _ _ _ (show k ≠ gA from hk)
  have hsz := size_set wz ⟨gA, 1, none⟩ (.bool b)
  obtain ⟨x, y, hx, -⟩ := hE.read
  have ho : wz.ownsRow (ga + 1) 51 5 (.slice (some ⟨gA, 0, none⟩) (F.length + 1) cA) (F.length + 1) ((f :: F).flatMap affL) := h.aff
  refine ⟨⟨World.ownsRow.cellAt ho 1 (by omega), World.ownsRow.frozenAt ho 1⟩, hE.box.set _ (by omega), hE.box2.set _ h.xa, (hb _ (by omega)).trans hE.r1, (hb _ (by omega)).trans hE.r2, ⟨x, ⟨{ f with front := b } :: F, S⟩, hx.kept hk (.inl (by omega)), ?_⟩, hE.below.trans (hk.below (by omega) hE.below.size), h1, h2, h3⟩
  have hst : OwnA (wz.setCell ⟨gA, 1, none⟩ (.bool b)) (ga + 1) (.slice (some ⟨gA, 0, none⟩) (F.length + 1) cA) (F.length + 1) (({ f with front := b } :: F).flatMap affL) := (World.ownsRow.stored ho 1 (.bool b)).1
  refine copy_read (by omega) (A := { f with front := b } :: F) (S := S) (us := us) hst (OwnT.set h.stm (Ne.symm h.ab)) h.len (fun j h4 h5 => ?_) ⟨hn.al, hn.sl, fun a ha => ?_, hn.st⟩
  · exact ((h.uses j h4 h5).kept hk (.inl (by omega))).mono (Nat.le_refl _) (by rw [hsz]; have := h.xb; have := h.box.lt; omega)
  · rcases List.mem_cons.1 ha with rfl | ha
    · have := hn.af f (List.mem_cons_self ..)
      exact ⟨this.n, this.c, this.s, this.a⟩
    · exact hn.af a (List.mem_cons_of_mem _ ha)
/-- The first stem's uses of the copy turn. -/
theorem EndS.use {w wz W : World} {g ga bx gA cA gB cB gu cu : Nat} {v1 v2 : Value} {A : List AffD} {s : StemD} {S : List StemD} {u0 : Value} {us : List Value} {L : List ByteArray} (hE : EndS w wz g ga bx v1 v2 (.slice (some ⟨gA, 0, none⟩) A.length cA) (.slice (some ⟨gB, 0, none⟩) (S.length + 1) cB))
    (h : CopyG wz wz g ga bx gA cA gB cB ⟨A, s :: S⟩ (u0 :: us)) (hn : GraN ⟨A, s :: S⟩) (hW : Below wz.heap.size wz W) (hu : OwnS W wz.heap.size (.slice (some ⟨gu, 0, none⟩) L.length cu) L) (hL : L.length ≤ 60) (hLs : ∀ y ∈ L, y.size ≤ maxLen) :
    (W.cell? ⟨gB, 1, none⟩ = some u0 ∧ W.frozen? ⟨gB, 1, none⟩ = false) ∧ EndS w (W.setCell ⟨gB, 1, none⟩ (.slice (some ⟨gu, 0, none⟩) L.length cu)) g ga bx v1 v2 (.slice (some ⟨gA, 0, none⟩) A.length cA) (.slice (some ⟨gB, 0, none⟩) (S.length + 1) cB) := by
  have h1 := hE.og
  have h2 := hE.oa
  have h3 := hE.ox
  have hB := h.stm.lt
  have hA := h.aff.lt
  have hbl := h.box.lt
  have hWs := hW.size
  have hul := World.ownsRow.lt hu gu rfl
  have hk : Kept gB (gB + 1) W (W.setCell ⟨gB, 1, none⟩ (.slice (some ⟨gu, 0, none⟩) L.length cu)) := kept_setCell (Nat.le_refl _) (Nat.lt_succ_self _) _
  have hb : ∀ k, k ≠ gB → (W.setCell ⟨gB, 1, none⟩ (.slice (some ⟨gu, 0, none⟩) L.length cu)).heap[k]? = W.heap[k]? := fun k hk => Below.heap_setCell _ _ _ _ (show k ≠ gB from hk)
  have hsz := size_set W ⟨gB, 1, none⟩ (.slice (some ⟨gu, 0, none⟩) L.length cu)
  obtain ⟨x, y, hx, -⟩ := hE.read
  have ho : W.ownsRow (ga + 1) 59 2 (.slice (some ⟨gB, 0, none⟩) (S.length + 1) cB) (S.length + 1) (((s :: S).zip (u0 :: us)).flatMap stemL) := OwnT.below h.stm hW
  refine ⟨⟨World.ownsRow.cellAt ho 1 (by omega), World.ownsRow.frozenAt ho 1⟩, (hE.box.below hW).set _ (by omega), (hE.box2.below hW).set _ h.xs, ((hb _ (by omega)).trans (hW.block _ (by omega))).trans hE.r1, ((hb _ (by omega)).trans (hW.block _ (by omega))).trans hE.r2, ⟨x, ⟨A, ⟨s.word, L⟩ :: S⟩, (hx.below hW).kept hk (.inl (by omega)), ?_⟩, (hE.below.trans (hW.mono hE.below.size)).trans (hk.below (by omega) (Nat.le_trans hE.below.size hWs)), h1, h2, h3⟩
  have hst : OwnT (W.setCell ⟨gB, 1, none⟩ (.slice (some ⟨gu, 0, none⟩) L.length cu)) (ga + 1) (.slice (some ⟨gB, 0, none⟩) (S.length + 1) cB) (S.length + 1) (((⟨s.word, L⟩ :: S).zip (.slice (some ⟨gu, 0, none⟩) L.length cu :: us)).flatMap stemL) := (World.ownsRow.stored ho 1 _).1
  refine copy_read (by omega) (A := A) (S := ⟨s.word, L⟩ :: S) (us := .slice (some ⟨gu, 0, none⟩) L.length cu :: us) (OwnA.set (OwnA.below h.aff hW) h.ab) hst (by have := h.len; simpa using this) (fun j h4 h5 => ?_) ⟨hn.al, hn.sl, hn.af, fun t ht => ?_⟩
  · cases j with
    | zero =>
      have h6 : OwnS (W.setCell ⟨gB, 1, none⟩ (.slice (some ⟨gu, 0, none⟩) L.length cu)) wz.heap.size (.slice (some ⟨gu, 0, none⟩) L.length cu) L := own_frame hu fun k e => hb k (by have e : gu = k := Option.some.inj e; omega)
      exact (h6.strs hLs).mono (by omega) (Nat.le_refl _)
    | succ j =>
      have h7 := h.uses (j + 1) h4 h5
      exact ((h7.below hW).kept hk (.inl (by omega))).mono (Nat.le_refl _) (by rw [hsz]; omega)
  · rcases List.mem_cons.1 ht with rfl | ht
    · exact ⟨(hn.st s (List.mem_cons_self ..)).1, hL, hLs⟩
    · exact hn.st t (List.mem_cons_of_mem _ ht)
end Go.Proofs.YtndfhmphlomeiaaGreatDoor
/- Boxes with grammars and derivations that read. No condition. -/
namespace Go.Proofs.YtndfhmphlomeiaaGreatDoor
open Go.RowKit
theorem GraR.parts {w : World} {v1 v2 : Value} {x : GraD} (h : GraR w (.agg #[v1, v2]) x) : ∃ a c b d, v1 = .slice a x.affixes.length c ∧ v2 = .slice b x.stems.length d := by
  obtain ⟨a, c, b, d, e⟩ := h.shape
  injection e with e
  simp only [Array.mk.injEq, List.cons.injEq, and_true] at e
  exact ⟨a, c, b, d, e.1, e.2⟩
structure BR (w : World) (b : Nat) (v1 v2 : Value) (x : GraD) : Prop where
  box : BoxG w b v1 v2
  rd : GraR w (.agg #[v1, v2]) x
theorem BR.below {w w' : World} {b v1 v2 x} (h : BR w b v1 v2 x) (hb : Below w.heap.size w w') : BR w' b v1 v2 x := ⟨h.box.below hb, h.rd.below hb⟩
theorem BR.new {w : World} {v1 v2 x} (h : GraR w (.agg #[v1, v2]) x) : BR (w.alloc (.cells #[v1, v2] 27)) w.heap.size v1 v2 x := ⟨heap_alloc_new w _, h.below ((Below.refl _ _).alloc (Nat.le_refl _) _)⟩
theorem BR.new1 {w : World} {v1 v2 x} (h : GraR w (.agg #[v1, v2]) x) (O : Obj) : BR ((w.alloc (.cells #[v1, v2] 27)).alloc O) w.heap.size v1 v2 x := (BR.new h).below ((Below.refl _ _).alloc (Nat.le_refl _) _)
theorem BR.new2 {w : World} {v1 v2 x} (O : Obj) (h : GraR w (.agg #[v1, v2]) x) : BR ((w.alloc O).alloc (.cells #[v1, v2] 27)) (w.heap.size + 1) v1 v2 x := by
  have hb : Below w.heap.size w (w.alloc O) := (Below.refl _ _).alloc (Nat.le_refl _) _
  refine ⟨heap_alloc2_new w _ _, (h.below hb).below ((Below.refl _ _).alloc (Nat.le_refl _) _)⟩
structure BD (w : World) (b : Nat) (s : ByteArray) (u : Value) (d : DerD) : Prop where
  box : w.heap[b]? = some (.cells #[.string s, u] 37 (0, 0))
  rd : DerR w (.agg #[.string s, u]) d
theorem BD.below {w w' : World} {b s u d} (h : BD w b s u d) (hb : Below w.heap.size w w') : BD w' b s u d := ⟨(hb.block b (Array.getElem?_eq_some_iff.1 h.box).1).trans h.box, h.rd.below hb⟩
theorem BD.new2 {w : World} {s u d} (O : Obj) (h : DerR w (.agg #[.string s, u]) d) : BD ((w.alloc O).alloc (.cells #[.string s, u] 37)) (w.heap.size + 1) s u d := by
  have hb : Below w.heap.size w (w.alloc O) := (Below.refl _ _).alloc (Nat.le_refl _) _
  refine ⟨heap_alloc2_new w _ _, (h.below hb).below ((Below.refl _ _).alloc (Nat.le_refl _) _)⟩
theorem two_belowQ (w : World) (a b : Obj) : Below w.heap.size w ((w.alloc a).alloc b) := ((Below.refl _ _).alloc (Nat.le_refl _) a).alloc (by simp) b
attribute [local irreducible] Calls
theorem f6bigQ_any (a : Option Addr) (n c : Nat) (w : World) (hn : n ≤ maxLen) :
    Calls Tryz.prog 4 #[.slice a n c] w fun e w' => e = .returned (.bool (decide (4096 < n))) ∧ w' = w := by
  unfold maxLen at hn
  by_cases h : 4096 < n
  · have hI : (4096 : Int) < (n : Int) := by omega
    go_enter Tryz.func4, Tryz.ntmps4
    go_wp2
    go_ret
    exact ⟨ret_bool (by simp [h]), rfl⟩
  · have hI : ¬ ((4096 : Int) < (n : Int)) := by omega
    go_enter Tryz.func4, Tryz.ntmps4
    go_wp2
    go_ret
    exact ⟨ret_bool (by simp [h]), rfl⟩
end Go.Proofs.YtndfhmphlomeiaaGreatDoor
/- SameGrammar of both sides. No condition but the readings. -/
namespace Go.Proofs.YtndfhmphlomeiaaGreatDoor
open Go.RowKit
theorem stood : Tryz.prog.stoodInHeld 51 = false := by kernel_rfl
theorem flds : Tryz.prog.underlying 51 = some (.struct (Tryz.prog.fieldsOf 51)) := by kernel_rfl
theorem isAgg_str (w : World) : (isAgg 9).run Tryz.prog w = .ok false w := by kernel_rfl
theorem isAgg_bool (w : World) : (isAgg 4).run Tryz.prog w = .ok false w := by kernel_rfl
theorem part_str (xs : Array Value) (i : Nat) (v : Value) (w : World) (h : xs[i]? = some v) : (part 9 xs i).run Tryz.prog w = .ok v w := by
  unfold part
  rw [Sem.run_bind, isAgg_str]
  simp [h]
theorem part_bool (xs : Array Value) (i : Nat) (v : Value) (w : World) (h : xs[i]? = some v) : (part 4 xs i).run Tryz.prog w = .ok v w := by
  unfold part
  rw [Sem.run_bind, isAgg_bool]
  simp [h]
theorem eqf_str (d : Nat) (xs ys : Array Value) (f : Field) (fs : List Field) (a b : ByteArray) (w : World) (hn : f.name ≠ "_") (ht : f.type = 9) (hx : xs[f.offset]? = some (.string a)) (hy : ys[f.offset]? = some (.string b)) :
    (Op.eqFields (d + 1) xs ys (f :: fs)).run Tryz.prog w = if a = b then (Op.eqFields (d + 1) xs ys fs).run Tryz.prog w else .ok false w := by
  rw [Op.eqFields]
  rw [if_pos hn, ht, Sem.run_bind, part_str _ _ _ _ hx, Result.andThen_ok, Sem.run_bind, part_str _ _ _ _ hy, Result.andThen_ok, Sem.run_bind, run_equalIn_string w d 9 a b Tryz.underlying9, Result.andThen_ok]
  by_cases h : a = b
  · subst h; simp
  · rw [if_neg h]
    have : (a.toList == b.toList) = false := by
      rw [beq_eq_false_iff_ne, Lib.toList_data, Lib.toList_data]; intro e; apply h; apply ByteArray.ext; exact Array.toList_inj.1 e
    rw [this]; simp
theorem eqf_bool (d : Nat) (xs ys : Array Value) (f : Field) (fs : List Field) (a b : Bool) (w : World) (hn : f.name ≠ "_") (ht : f.type = 4) (hx : xs[f.offset]? = some (.bool a)) (hy : ys[f.offset]? = some (.bool b)) :
    (Op.eqFields (d + 1) xs ys (f :: fs)).run Tryz.prog w = if a = b then (Op.eqFields (d + 1) xs ys fs).run Tryz.prog w else .ok false w := by
  rw [Op.eqFields]
  rw [if_pos hn, ht, Sem.run_bind, part_bool _ _ _ _ hx, Result.andThen_ok, Sem.run_bind, part_bool _ _ _ _ hy, Result.andThen_ok, Sem.run_bind, run_equalIn_bool w d 4 a b Tryz.underlying4, Result.andThen_ok]
  by_cases h : a = b
  · subst h; simp
  · rw [if_neg h]
    have : (a == b) = false := by simpa using h
    rw [this]; simp
theorem neq_aff (x y : AffD) (w : World) : (binOp .neq 51 (.agg #[.string x.name, .bool x.front, .string x.cond, .string x.strip, .string x.add]) (.agg #[.string y.name, .bool y.front, .string y.cond, .string y.strip, .string y.add])).run Tryz.prog w = .ok (.bool (!decide (x = y))) w := by
  rw [run_neq_struct, run_equalIn_agg (P := Tryz.prog) w 9999 _ _ _ flds stood]
  unfold Program.fieldsOf
  rw [Tryz.underlying51]
  rw [eqf_str 9998 _ _ _ _ x.name y.name _ (by decide) rfl rfl rfl, eqf_bool 9998 _ _ _ _ x.front y.front _ (by decide) rfl rfl rfl, eqf_str 9998 _ _ _ _ x.cond y.cond _ (by decide) rfl rfl rfl, eqf_str 9998 _ _ _ _ x.strip y.strip _ (by decide) rfl rfl rfl, eqf_str 9998 _ _ _ _ x.add y.add _ (by decide) rfl rfl rfl]
  by_cases h : x = y
  · subst h; simp [Op.eqFields]
  · rw [decide_eq_false h]
    by_cases h0 : x.name = y.name
    · rw [if_pos h0]
      by_cases h1 : x.front = y.front
      · rw [if_pos h1]
        by_cases h2 : x.cond = y.cond
        · rw [if_pos h2]
          by_cases h3 : x.strip = y.strip
          · rw [if_pos h3]
            by_cases h4 : x.add = y.add
            · exact absurd (by cases x; cases y; simp_all) h
            · rw [if_neg h4]; rfl
          · rw [if_neg h3]; rfl
        · rw [if_neg h2]; rfl
      · rw [if_neg h1]; rfl
    · rw [if_neg h0]; rfl
set_option maxHeartbeats 4000000 in
set_option maxRecDepth 20000 in
theorem equalAffix_any (a b : Value) (l1 l2 : List AffD) (w : World) (ha : Affs w a l1) (hb : Affs w b l2) :
    Calls Tryz.prog 43 #[a, b] w fun e w' => e = .returned (.bool (decide (l1 = l2))) ∧ Below w.heap.size w w' := by
  obtain ⟨a1, c1, rfl, h1, h1', h1c⟩ := ha.shape
  obtain ⟨a2, c2, rfl, h2, h2', h2c⟩ := hb.shape
  clear ha hb
  unfold maxLen at h1' h2'
  by_cases hlen : l1.length = l2.length
  · have Hlen := Lib.hid hlen
    have hl0 : ((l1.length : Int) != (l2.length : Int)) = false := by rw [bne_eq_false_iff_eq]; omega
    clear hlen
    go_enter Tryz.func43, Tryz.ntmps43
    go_wp2
    go_loopw [13] (fun i wr => ∃ k : Nat, k ≤ l1.length ∧ i = .int .i64 k ∧ Hid (l1.take k = l2.take k) ∧ Hid (Below w.heap.size w wr)) (fun i _ => l1.length - (intOf i).toNat)
    case atStart => exact ⟨0, Nat.zero_le _, rfl, Lib.hid rfl, Lib.hid (Below.refl _ _)⟩
    case round =>
      obtain ⟨k, hk, rfl, Heq, HB⟩ := hrel
      by_cases hlt : k < l1.length
      · have hlt2 : k < l2.length := by have := Hlen.out; omega
        obtain ⟨b1, o1, rfl, k0, k1, k2, k3, k4, -⟩ := h1c k hlt
        obtain ⟨b2, o2, rfl, k5, k6, k7, k8, k9, -⟩ := h2c k hlt2
        have f0 := cell_below HB.out k0
        have f1 := cell_below HB.out k1
        have f2 := cell_below HB.out k2
        have f3 := cell_below HB.out k3
        have f4 := cell_below HB.out k4
        have f5 := cell_below HB.out k5
        have f6 := cell_below HB.out k6
        have f7 := cell_below HB.out k7
        have f8 := cell_below HB.out k8
        have f9 := cell_below HB.out k9
        have hI0 : (0 : Int) ≤ (k : Int) := by omega
        have hI1 : (k : Int) < (l1.length : Int) := by omega
        have hI2 : (k : Int) < (l2.length : Int) := by omega
        clear k0 k1 k2 k3 k4 k5 k6 k7 k8 k9 h1c h2c
        obtain ⟨x, hx⟩ : ∃ x, x = l1[k] := ⟨_, rfl⟩
        obtain ⟨y, hy⟩ : ∃ y, y = l2[k] := ⟨_, rfl⟩
        rw [← hx] at f0 f1 f2 f3 f4
        rw [← hy] at f5 f6 f7 f8 f9
        have HX := Lib.hid hx
        have HY := Lib.hid hy
        clear hx hy
        have hneq := fun w => neq_aff x y w
        cases hd : decide (x = y)
        · have Hd := Lib.hid hd
          rw [hd, Bool.not_false] at hneq
          go_wp2_with fail
          go_quiet (fail)
          go_wp2
          go_ret
          refine ⟨ret_bool ?_, below_drewN HB.out _⟩
          rw [eq_comm, decide_eq_false_iff_not]
          rintro rfl
          have h1 := HX.out
          have h2 := HY.out
          rw [h1, h2] at Hd
          have := Hd.out
          simp at this
        · have Hd := Lib.hid (of_decide_eq_true hd)
          rw [hd, Bool.not_true] at hneq
          go_wp2_with fail
          go_quiet (fail)
          go_wp2
          go_roundw
          case rel => exact ⟨k + 1, by omega, by go_num, Lib.hid (take_eq_succ Heq.out hlt hlt2 (by rw [← HX.out, ← HY.out]; exact Hd.out)), Lib.hid (below_drewN HB.out _)⟩
          case measure => simp [intOf]; omega
      · go_wp2
        go_ret
        refine ⟨ret_bool ?_, HB.out⟩
        rw [eq_comm, decide_eq_true_iff]
        have h := Heq.out
        rwa [List.take_of_length_le (by omega), List.take_of_length_le (by have := Hlen.out; omega)] at h
  · have hl0 : ((l1.length : Int) != (l2.length : Int)) = true := by rw [bne_iff_ne]; omega
    have H := Lib.hid hlen
    clear hlen
    go_enter Tryz.func43, Tryz.ntmps43
    go_wp2
    go_ret
    exact ⟨ret_bool (by rw [eq_comm, decide_eq_false_iff_not]; rintro rfl; exact H.out rfl), Below.refl _ _⟩
end Go.Proofs.YtndfhmphlomeiaaGreatDoor
/- SameGrammar of both sides. No condition but the readings. -/
namespace Go.Proofs.YtndfhmphlomeiaaGreatDoor
open Go.RowKit
attribute [local irreducible] Calls
set_option maxHeartbeats 2000000 in
set_option maxRecDepth 20000 in
theorem sameStem_any (x y : StemD) (u v : Value) (w : World) (hu : Strs w u x.uses) (hv : Strs w v y.uses) :
    Calls Tryz.prog 45 #[.agg #[.string x.word, u], .agg #[.string y.word, v]] w fun e w' => e = .returned (.bool (decide (x = y))) ∧ Below w.heap.size w w' := by
  have hb0 : Below w.heap.size w ((w.alloc (.cells #[.string x.word, u] 59)).alloc (.cells #[.string y.word, v] 59)) := ((Below.refl _ _).alloc (Nat.le_refl _) _).alloc (by simp) _
  cases h0 : (x.word.toList == y.word.toList)
  · have H0 := Lib.hid h0
    go_enter Tryz.func45, Tryz.ntmps45
    go_wp2
    go_ret
    exact ⟨ret_bool (by rw [stemD_eq, decide_eq_false (bytes_ne_of H0.out)]; rfl), hb0⟩
  · have E0 := Lib.hid (bytes_eq_of h0)
    go_enter Tryz.func45, Tryz.ntmps45
    go_wp2_with fail
    refine (equalStr_any u v x.uses y.uses _ (hu.below hb0) (hv.below hb0)).mono ?_
    rintro e w1 ⟨rfl, q, hw1⟩
    have hbb : Below w.heap.size w w1 := by rw [hw1]; exact below_drewN hb0 _
    clear hw1
    cases hd : decide (x.uses = y.uses)
    · have HD := Lib.hid hd
      go_wp2
      go_ret
      exact ⟨ret_bool (by rw [stemD_eq, decide_eq_true E0.out, Bool.true_and, HD.out]), hbb⟩
    · have HD := Lib.hid hd
      go_wp2
      go_ret
      exact ⟨ret_bool (by rw [stemD_eq, decide_eq_true E0.out, Bool.true_and, HD.out]), hbb⟩
set_option maxHeartbeats 4000000 in
set_option maxRecDepth 20000 in
theorem equalFunc_any (a b : Value) (l1 l2 : List StemD) (w : World) (ha : Stems w a l1) (hb : Stems w b l2) :
    Calls Tryz.prog 44 #[a, b, .func (.func 45) #[] #[]] w fun e w' => e = .returned (.bool (decide (l1 = l2))) ∧ Below w.heap.size w w' := by
  obtain ⟨a1, c1, rfl, h1, h1', h1c⟩ := ha.shape
  obtain ⟨a2, c2, rfl, h2, h2', h2c⟩ := hb.shape
  clear ha hb
  unfold maxLen at h1' h2'
  by_cases hlen : l1.length = l2.length
  · have Hlen := Lib.hid hlen
    have hl0 : ((l1.length : Int) != (l2.length : Int)) = false := by rw [bne_eq_false_iff_eq]; omega
    clear hlen
    go_enter Tryz.func44, Tryz.ntmps44
    go_wp2
    go_loopw [17] (fun i wr => ∃ k : Nat, k ≤ l1.length ∧ i = .int .i64 k ∧ Hid (l1.take k = l2.take k) ∧ Hid (Below w.heap.size w wr)) (fun i _ => l1.length - (intOf i).toNat)
    case atStart => exact ⟨0, Nat.zero_le _, rfl, Lib.hid rfl, Lib.hid (Below.refl _ _)⟩
    case round =>
      obtain ⟨k, hk, rfl, Heq, HB⟩ := hrel
      by_cases hlt : k < l1.length
      · have hlt2 : k < l2.length := by have := Hlen.out; omega
        obtain ⟨b1, o1, u1, rfl, k0, k1, -, hu1⟩ := h1c k hlt
        obtain ⟨b2, o2, u2, rfl, k2, k3, -, hu2⟩ := h2c k hlt2
        obtain ⟨ua, uc, rfl, -, -, -⟩ := hu1.shape
        obtain ⟨va, vc, rfl, -, -, -⟩ := hu2.shape
        have HU1 := Lib.hid (hu1.below HB.out)
        have HU2 := Lib.hid (hu2.below HB.out)
        have f0 := cell_below HB.out k0
        have f1 := cell_below HB.out k1
        have f2 := cell_below HB.out k2
        have f3 := cell_below HB.out k3
        have hI0 : (0 : Int) ≤ (k : Int) := by omega
        have hI1 : (k : Int) < (l1.length : Int) := by omega
        have hI2 : (k : Int) < (l2.length : Int) := by omega
        have hb2 : Below wr.heap.size wr ((wr.alloc (.cells #[.string l1[k].word, .slice ua l1[k].uses.length uc] 59)).alloc (.cells #[.string l2[k].word, .slice va l2[k].uses.length vc] 59)) := ((Below.refl _ _).alloc (Nat.le_refl _) _).alloc (by simp) _
        have g2 := cell_alloc (.cells #[.string l1[k].word, .slice ua l1[k].uses.length uc] 59) f2
        have g3 := cell_alloc (.cells #[.string l1[k].word, .slice ua l1[k].uses.length uc] 59) f3
        have HB2 := Lib.hid (HB.out.trans (hb2.mono HB.out.size))
        have HUa := Lib.hid (HU1.out.below hb2)
        have HUb := Lib.hid (HU2.out.below hb2)
        have hcl := Tryz.call45
        clear k0 k1 k2 k3 h1c h2c hu1 hu2 hb2
        go_wp2_with fail
        refine (sameStem_any l1[k] l2[k] (.slice ua l1[k].uses.length uc) (.slice va l2[k].uses.length vc) _ HUa.out HUb.out).mono ?_
        rintro e w2 ⟨rfl, hb3⟩
        have HB3 := Lib.hid (HB2.out.trans (hb3.mono HB2.out.size))
        clear hb3 f0 f1 f2 f3 g2 g3
        cases hd : decide (l1[k] = l2[k])
        · have Hd := Lib.hid hd
          go_wp2
          go_ret
          exact ⟨ret_bool (by rw [eq_comm, decide_eq_false_iff_not]; rintro rfl; have := Hd.out; simp at this), HB3.out⟩
        · have Hd := Lib.hid (of_decide_eq_true hd)
          go_wp2
          go_roundw
          case rel => exact ⟨k + 1, by omega, by go_num, Lib.hid (take_eq_succ Heq.out hlt hlt2 Hd.out), HB3⟩
          case measure => simp [intOf]; omega
      · go_wp2
        go_ret
        refine ⟨ret_bool ?_, HB.out⟩
        rw [eq_comm, decide_eq_true_iff]
        have h := Heq.out
        rwa [List.take_of_length_le (by omega), List.take_of_length_le (by have := Hlen.out; omega)] at h
  · have hl0 : ((l1.length : Int) != (l2.length : Int)) = true := by rw [bne_iff_ne]; omega
    have H := Lib.hid hlen
    clear hlen
    go_enter Tryz.func44, Tryz.ntmps44
    go_wp2
    go_ret
    exact ⟨ret_bool (by rw [eq_comm, decide_eq_false_iff_not]; rintro rfl; exact H.out rfl), Below.refl _ _⟩
set_option maxHeartbeats 2000000 in
set_option maxRecDepth 20000 in
theorem implSameGrammar_any (a : Value) (x : GraD) (b : Value) (y : GraD) (w : World) (ha : GraR w a x) (hb : GraR w b y) :
    Calls Tryz.prog 16 #[a, b] w fun e w' => e = .returned (.bool (decide (x = y))) ∧ Below w.heap.size w w' := by
  obtain ⟨s1, s2, rfl, h1, h2⟩ := ha
  obtain ⟨t1, t2, rfl, g1, g2⟩ := hb
  have hb0 : Below w.heap.size w ((w.alloc (.cells #[s1, s2] 27)).alloc (.cells #[t1, t2] 27)) := ((Below.refl _ _).alloc (Nat.le_refl _) _).alloc (by simp) _
  have c1 := cell_alloc (.cells #[t1, t2] 27) (cell_newi w #[s1, s2] 27 1 s2 rfl)
  have d1 := cell_newi (w.alloc (.cells #[s1, s2] 27)) #[t1, t2] 27 1 t2 rfl
  rw [World.size_alloc] at d1
  go_enter Tryz.func16, Tryz.ntmps16
  go_wp2_with fail
  refine (equalAffix_any s1 t1 x.affixes y.affixes _ (h1.below hb0) (g1.below hb0)).mono ?_
  rintro e w1 ⟨rfl, hb1⟩
  have hbb := hb0.trans (hb1.mono hb0.size)
  have c2 := cell_below hb1 c1
  have d2 := cell_below hb1 d1
  clear c1 d1 hb1
  cases hd : decide (x.affixes = y.affixes)
  · have HD := Lib.hid hd
    go_wp2
    go_ret
    exact ⟨ret_bool (by rw [graD_eq, HD.out]; rfl), hbb⟩
  · have HD := Lib.hid hd
    clear hd
    go_wp2_with fail
    refine (equalFunc_any s2 t2 x.stems y.stems _ (h2.below hbb) (g2.below hbb)).mono ?_
    rintro e w2 ⟨rfl, hb2⟩
    have hbb2 := hbb.trans (hb2.mono hbb.size)
    cases hd2 : decide (x.stems = y.stems)
    · have HD2 := Lib.hid hd2
      go_wp2
      go_ret
      exact ⟨ret_bool (by rw [graD_eq, HD.out, HD2.out]; rfl), hbb2⟩
    · have HD2 := Lib.hid hd2
      go_wp2
      go_ret
      exact ⟨ret_bool (by rw [graD_eq, HD.out, HD2.out]; rfl), hbb2⟩
set_option maxHeartbeats 8000000 in
set_option maxRecDepth 20000 in
theorem specSameGrammar_any (a : Value) (x : GraD) (b : Value) (y : GraD) (w : World) (ha : GraR w a x) (hb : GraR w b y) :
    Calls Tryz.prog 15 #[a, b] w fun e w' => e = .returned (.bool (decide (x = y))) ∧ Below w.heap.size w w' := by
  obtain ⟨s1, s2, rfl, h1, h2⟩ := ha
  obtain ⟨t1, t2, rfl, g1, g2⟩ := hb
  obtain ⟨a1, c1, rfl, i1, i1', h1c⟩ := h1.shape
  obtain ⟨a2, c2, rfl, i2, i2', h2c⟩ := h2.shape
  obtain ⟨a3, c3, rfl, i3, i3', g1c⟩ := g1.shape
  obtain ⟨a4, c4, rfl, i4, i4', g2c⟩ := g2.shape
  clear h1 h2 g1 g2
  unfold maxLen at i1' i2' i3' i4'
  have hb0 : Below w.heap.size w ((w.alloc (.cells #[.slice a1 x.affixes.length c1, .slice a2 x.stems.length c2] 27)).alloc (.cells #[.slice a3 y.affixes.length c3, .slice a4 y.stems.length c4] 27)) := ((Below.refl _ _).alloc (Nat.le_refl _) _).alloc (by simp) _
  have p0 := cell_alloc (.cells #[.slice a3 y.affixes.length c3, .slice a4 y.stems.length c4] 27) (cell_newi w #[.slice a1 x.affixes.length c1, .slice a2 x.stems.length c2] 27 0 (.slice a1 x.affixes.length c1) rfl)
  have p1 := cell_alloc (.cells #[.slice a3 y.affixes.length c3, .slice a4 y.stems.length c4] 27) (cell_newi w #[.slice a1 x.affixes.length c1, .slice a2 x.stems.length c2] 27 1 (.slice a2 x.stems.length c2) rfl)
  have q0 := cell_newi (w.alloc (.cells #[.slice a1 x.affixes.length c1, .slice a2 x.stems.length c2] 27)) #[.slice a3 y.affixes.length c3, .slice a4 y.stems.length c4] 27 0 (.slice a3 y.affixes.length c3) rfl
  have q1 := cell_newi (w.alloc (.cells #[.slice a1 x.affixes.length c1, .slice a2 x.stems.length c2] 27)) #[.slice a3 y.affixes.length c3, .slice a4 y.stems.length c4] 27 1 (.slice a4 y.stems.length c4) rfl
  rw [World.size_alloc] at q0 q1
  by_cases hla : x.affixes.length = y.affixes.length
  · by_cases hls : x.stems.length = y.stems.length
    · have l1 : ((x.affixes.length : Int) != (y.affixes.length : Int)) = false := by rw [bne_eq_false_iff_eq]; omega
      have l2 : ((x.stems.length : Int) != (y.stems.length : Int)) = false := by rw [bne_eq_false_iff_eq]; omega
      have HLa := Lib.hid hla
      have HLs := Lib.hid hls
      have HB0 := Lib.hid hb0
      have hz0 : ((w.alloc (.cells #[.slice a1 x.affixes.length c1, .slice a2 x.stems.length c2] 27)).alloc (.cells #[.slice a3 y.affixes.length c3, .slice a4 y.stems.length c4] 27)).heap.size = w.heap.size + 1 + 1 := by simp
      clear hla hls hb0
      go_enter Tryz.func15, Tryz.ntmps15
      go_wp2
      go_loopw [5] (fun i wr => ∃ k : Nat, k ≤ x.affixes.length ∧ i = .int .i64 k ∧ Hid (x.affixes.take k = y.affixes.take k) ∧ Hid (Below ((w.alloc (.cells #[.slice a1 x.affixes.length c1, .slice a2 x.stems.length c2] 27)).alloc (.cells #[.slice a3 y.affixes.length c3, .slice a4 y.stems.length c4] 27)).heap.size ((w.alloc (.cells #[.slice a1 x.affixes.length c1, .slice a2 x.stems.length c2] 27)).alloc (.cells #[.slice a3 y.affixes.length c3, .slice a4 y.stems.length c4] 27)) wr)) (fun i _ => x.affixes.length - (intOf i).toNat)
      case atStart => exact ⟨0, Nat.zero_le _, rfl, Lib.hid rfl, Lib.hid (Below.refl _ _)⟩
      case round =>
        obtain ⟨k, hk, rfl, Heq, HB⟩ := hrel
        have e0 := cell_below HB.out p0
        have e1 := cell_below HB.out p1
        have e2 := cell_below HB.out q0
        have e3 := cell_below HB.out q1
        have HBw := Lib.hid (HB0.out.trans (HB.out.mono HB0.out.size))
        by_cases hlt : k < x.affixes.length
        · have hlt2 : k < y.affixes.length := by have := HLa.out; omega
          obtain ⟨b1, o1, rfl, k0, k1, k2, k3, k4, -⟩ := h1c k hlt
          obtain ⟨b2, o2, rfl, k5, k6, k7, k8, k9, -⟩ := g1c k hlt2
          have f0 := cell_below HBw.out k0
          have f1 := cell_below HBw.out k1
          have f2 := cell_below HBw.out k2
          have f3 := cell_below HBw.out k3
          have f4 := cell_below HBw.out k4
          have f5 := cell_below HBw.out k5
          have f6 := cell_below HBw.out k6
          have f7 := cell_below HBw.out k7
          have f8 := cell_below HBw.out k8
          have f9 := cell_below HBw.out k9
          have hI0 : (0 : Int) ≤ (k : Int) := by omega
          have hI1 : (k : Int) < (x.affixes.length : Int) := by omega
          have hI2 : (k : Int) < (y.affixes.length : Int) := by omega
          clear k0 k1 k2 k3 k4 k5 k6 k7 k8 k9 h1c g1c h2c g2c p0 p1 q0 q1
          obtain ⟨xa, hx⟩ : ∃ xa, xa = x.affixes[k] := ⟨_, rfl⟩
          obtain ⟨ya, hy⟩ : ∃ ya, ya = y.affixes[k] := ⟨_, rfl⟩
          rw [← hx] at f0 f1 f2 f3 f4
          rw [← hy] at f5 f6 f7 f8 f9
          have HX := Lib.hid hx
          have HY := Lib.hid hy
          clear hx hy
          have hneq := fun w => neq_aff xa ya w
          cases hd : decide (xa = ya)
          · have Hd := Lib.hid hd
            rw [hd, Bool.not_false] at hneq
            go_wp2_with fail
            go_quiet (fail)
            go_wp2
            go_ret
            refine ⟨ret_bool ?_, below_drewN HBw.out _⟩
            rw [eq_comm, decide_eq_false_iff_not]
            rintro rfl
            have h1 := HX.out
            have h2 := HY.out
            rw [h1, h2] at Hd
            have := Hd.out
            simp at this
          · have Hd := Lib.hid (of_decide_eq_true hd)
            rw [hd, Bool.not_true] at hneq
            go_wp2_with fail
            go_quiet (fail)
            go_wp2
            go_roundw
            case rel => exact ⟨k + 1, by omega, by go_num, Lib.hid (take_eq_succ Heq.out hlt hlt2 (by rw [← HX.out, ← HY.out]; exact Hd.out)), Lib.hid (below_drewN HB.out _)⟩
            case measure => simp [intOf]; omega
        · have heqA : x.affixes = y.affixes := by
            have h := Heq.out
            rwa [List.take_of_length_le (by omega), List.take_of_length_le (by have := HLa.out; omega)] at h
          have HEA := Lib.hid heqA
          clear heqA h1c g1c
          obtain ⟨ka, hka⟩ : ∃ ka : Int, ka = (k : Int) := ⟨_, rfl⟩
          go_wp2
          obtain ⟨wv, hwv⟩ : ∃ wv : World, wv = wr := ⟨_, rfl⟩
          go_loopw [6] (fun i wr => ∃ k : Nat, k ≤ x.stems.length ∧ i = .int .i64 k ∧ Hid (x.stems.take k = y.stems.take k) ∧ Hid (Below ((w.alloc (.cells #[.slice a1 x.affixes.length c1, .slice a2 x.stems.length c2] 27)).alloc (.cells #[.slice a3 y.affixes.length c3, .slice a4 y.stems.length c4] 27)).heap.size ((w.alloc (.cells #[.slice a1 x.affixes.length c1, .slice a2 x.stems.length c2] 27)).alloc (.cells #[.slice a3 y.affixes.length c3, .slice a4 y.stems.length c4] 27)) wr)) (fun i _ => x.stems.length - (intOf i).toNat)
          case atStart => exact ⟨0, Nat.zero_le _, rfl, Lib.hid rfl, HB⟩
          case round =>
            obtain ⟨m, hm, rfl, Heq2, HB2⟩ := hrel
            clear e0 e1 e2 e3
            have e1 := cell_below HB2.out p1
            have e3 := cell_below HB2.out q1
            have HBv := Lib.hid (HB0.out.trans (HB2.out.mono HB0.out.size))
            by_cases hlt3 : m < x.stems.length
            · have hlt4 : m < y.stems.length := by have := HLs.out; omega
              obtain ⟨b1, o1, u1, rfl, k0, k1, -, hu1⟩ := h2c m hlt3
              obtain ⟨b2, o2, u2, rfl, k2, k3, -, hu2⟩ := g2c m hlt4
              have f0 := cell_below HBv.out k0
              have f1 := cell_below HBv.out k1
              have f2 := cell_below HBv.out k2
              have f3 := cell_below HBv.out k3
              have HU1 := Lib.hid (hu1.below HBv.out)
              have HU2 := Lib.hid (hu2.below HBv.out)
              have hI0 : (0 : Int) ≤ (m : Int) := by omega
              have hI1 : (m : Int) < (x.stems.length : Int) := by omega
              have hI2 : (m : Int) < (y.stems.length : Int) := by omega
              clear k0 k1 k2 k3 h2c g2c hu1 hu2 p0 p1 q0 q1
              cases h0 : (x.stems[m].word.toList == y.stems[m].word.toList)
              · have H0 := Lib.hid h0
                go_wp2_with fail
                go_quiet (fail)
                go_wp2
                go_ret
                refine ⟨ret_bool ?_, below_drewN HBv.out _⟩
                rw [eq_comm, decide_eq_false_iff_not]
                rintro rfl
                have := H0.out
                simp at this
              · have E0 := Lib.hid (bytes_eq_of h0)
                go_wp2_with fail
                go_region_held3 (fun w' => w'.cell? ⟨w.heap.size, 1, none⟩ = some (.slice (some ⟨b1, o1, none⟩) x.stems.length c2) ∧ w'.cell? ⟨w.heap.size + 1, 1, none⟩ = some (.slice (some ⟨b2, o2, none⟩) y.stems.length c4) ∧ w'.cell? ⟨b1, o1 + m * 2, none⟩ = some (.string x.stems[m].word) ∧ w'.cell? ⟨b1, o1 + m * 2 + 1, none⟩ = some (u1) ∧ w'.cell? ⟨b2, o2 + m * 2, none⟩ = some (.string y.stems[m].word) ∧ w'.cell? ⟨b2, o2 + m * 2 + 1, none⟩ = some (u2) ∧ Below wr.heap.size wr w')
                  (first | exact ⟨e1, e3, f0, f1, f2, f3, (Below.refl _ _).drew⟩ | exact keepC hbk (by assumption) fun h => keepC hbk h fun h => keepC hbk h fun h => keepC hbk h fun h => keepC hbk h fun h => keepC hbk h fun h => keepE hbk h)
                  (first | (go_at_call 42; refine (l05Same_any u1 u2 x.stems[m].uses y.stems[m].uses _ ((fun (h : _ ∧ _ ∧ _ ∧ _ ∧ _ ∧ _ ∧ Below wr.heap.size wr _) => HU1.out.below h.2.2.2.2.2.2) (by assumption)) ((fun (h : _ ∧ _ ∧ _ ∧ _ ∧ _ ∧ _ ∧ Below wr.heap.size wr _) => HU2.out.below h.2.2.2.2.2.2) (by assumption))).mono ?_; rintro e w2 ⟨rfl, hbk⟩))
                have hb3 := (by assumption : _ ∧ _ ∧ _ ∧ _ ∧ _ ∧ _ ∧ Below wr.heap.size wr w2).2.2.2.2.2.2
                have HB3 := Lib.hid (HBv.out.trans (hb3.mono HBv.out.size))
                have HB4 := Lib.hid (HB2.out.trans (hb3.mono HB2.out.size))
                clear hb3 e1 e3 f0 f1 f2 f3
                cases hd : decide (x.stems[m].uses = y.stems[m].uses)
                · have Hd := Lib.hid hd
                  go_wp2
                  go_ret
                  refine ⟨ret_bool ?_, HB3.out⟩
                  rw [eq_comm, decide_eq_false_iff_not]
                  rintro rfl
                  have := Hd.out
                  simp at this
                · have Hd := Lib.hid (of_decide_eq_true hd)
                  go_wp2
                  go_roundw
                  case rel => exact ⟨m + 1, by omega, by go_num, Lib.hid (take_eq_succ Heq2.out hlt3 hlt4 (by
                    have h1 := E0.out
                    have h2 := Hd.out
                    generalize x.stems[m] = sx at h1 h2 ⊢
                    generalize y.stems[m] = sy at h1 h2 ⊢
                    cases sx; cases sy; simp_all)), HB4⟩
                  case measure => simp [intOf]; omega
            · go_wp2
              go_ret
              refine ⟨ret_bool ?_, HBv.out⟩
              rw [eq_comm, decide_eq_true_iff]
              have h := Heq2.out
              rw [List.take_of_length_le (by omega), List.take_of_length_le (by have := HLs.out; omega)] at h
              have h2 := HEA.out
              cases x; cases y; simp_all
    · have l1 : ((x.affixes.length : Int) != (y.affixes.length : Int)) = false := by rw [bne_eq_false_iff_eq]; omega
      have l2 : ((x.stems.length : Int) != (y.stems.length : Int)) = true := by rw [bne_iff_ne]; omega
      have H := Lib.hid hls
      clear hls hla
      go_enter Tryz.func15, Tryz.ntmps15
      go_wp2
      go_ret
      exact ⟨ret_bool (by rw [eq_comm, decide_eq_false_iff_not]; rintro rfl; exact H.out rfl), hb0⟩
  · have l1 : ((x.affixes.length : Int) != (y.affixes.length : Int)) = true := by rw [bne_iff_ne]; omega
    have H := Lib.hid hla
    clear hla
    go_enter Tryz.func15, Tryz.ntmps15
    go_wp2
    go_ret
    exact ⟨ret_bool (by rw [eq_comm, decide_eq_false_iff_not]; rintro rfl; exact H.out rfl), hb0⟩
end Go.Proofs.YtndfhmphlomeiaaGreatDoor
/- WordOf: the small functions of both sides on lists of strings and of stems. No condition but the readings. -/
namespace Go.Proofs.YtndfhmphlomeiaaGreatDoor
open Go.RowKit
theorem Strs.take {w : World} {a : Option Addr} {n c : Nat} {l : List ByteArray} (h : Strs w (.slice a n c) l) (i : Nat) (hi : i ≤ l.length) : Strs w (.slice a i c) (l.take i) := by
  obtain ⟨⟨h1, a', c', e, h2, h3, h4⟩, h5⟩ := h
  injection e with e1 e2 e3
  subst e1
  subst e3
  have hl : (l.take i).length = i := by simp; omega
  refine ⟨⟨by simp, a, c, by rw [hl], by rw [hl]; omega, h3, fun j u hj => ?_⟩, fun s hs => h5 s (List.mem_of_mem_take hs)⟩
  have hjl := (List.getElem?_eq_some_iff.1 hj).1
  simp at hjl
  refine h4 j u ?_
  rw [List.getElem?_map, List.getElem?_take, if_pos (by omega)] at hj
  rw [List.getElem?_map]; exact hj
theorem l04In_any (v : Value) (l : List ByteArray) (s : ByteArray) (w : World) (hv : Strs w v l) :
    Calls Tryz.prog 40 #[v, .string s] w fun e w' => e = .returned (.bool (inB l s)) ∧ w = w' := by
  obtain ⟨a, c, rfl, hl, hc, hcs⟩ := hv.shape
  unfold maxLen at hc
  clear hv
  go_enter Tryz.func40, Tryz.ntmps40
  go_wp2
  go_loop [5] (fun i => ∃ k : Nat, k ≤ l.length ∧ i = .int .i64 k ∧ ∀ i (_hi : i < k), (h : i < l.length) → l[i] ≠ s) (fun i => l.length - (intOf i).toNat)
  case atStart => exact ⟨0, by omega, rfl, fun i hi => by omega⟩
  case round =>
    obtain ⟨k, hk, rfl, hno⟩ := hrel
    have Hno := Lib.hid hno; clear hno
    by_cases hlt : k < l.length
    · obtain ⟨b, off, rfl, h0, -⟩ := hcs k hlt
      clear hcs
      cases he : (l[k].toList == s.toList)
      · have He := Lib.hid (bytes_ne_of he)
        go_wp2
        go_round
        case rel => exact ⟨k + 1, by omega, by go_num, fun i hi h => by
          rcases Nat.lt_succ_iff_lt_or_eq.1 hi with h2 | rfl
          · exact Hno.out i h2 h
          · exact He.out⟩
        case measure => simp [intOf]; omega
      · have He := Lib.hid (bytes_eq_of he)
        go_wp2
        go_ret
        exact ⟨ret_bool (inB_yes hlt He.out).symm, rfl⟩
    · go_wp2
      go_ret
      exact ⟨ret_bool (inB_no fun i hi => Hno.out i (by omega) hi).symm, rfl⟩
theorem indexS_any (v : Value) (l : List ByteArray) (s : ByteArray) (w : World) (hv : Strs w v l) :
    Calls Tryz.prog 65 #[v, .string s] w fun e w' => e = .returned (.int .i64 (idxI l s)) ∧ w = w' := by
  obtain ⟨a, c, rfl, hl, hc, hcs⟩ := hv.shape
  unfold maxLen at hc
  clear hv
  go_enter Tryz.func65, Tryz.ntmps65
  go_wp2
  go_loop [8] (fun i => ∃ k : Nat, k ≤ l.length ∧ i = .int .i64 k ∧ ∀ i (_hi : i < k), (h : i < l.length) → l[i] ≠ s) (fun i => l.length - (intOf i).toNat)
  case atStart => exact ⟨0, by omega, rfl, fun i hi => by omega⟩
  case round =>
    obtain ⟨k, hk, rfl, hno⟩ := hrel
    have Hno := Lib.hid hno; clear hno
    by_cases hlt : k < l.length
    · obtain ⟨b, off, rfl, h0, -⟩ := hcs k hlt
      clear hcs
      cases he : (s.toList == l[k].toList)
      · have He := Lib.hid (bytes_ne_of he)
        go_wp2
        go_round
        case rel => exact ⟨k + 1, by omega, by go_num, fun i hi h => by
          rcases Nat.lt_succ_iff_lt_or_eq.1 hi with h2 | rfl
          · exact Hno.out i h2 h
          · exact fun e => He.out e.symm⟩
        case measure => simp [intOf]; omega
      · have He := Lib.hid (bytes_eq_of he)
        go_wp2
        go_ret
        exact ⟨ret_int (idx_hit hlt He.out.symm fun i hi => Hno.out i hi (by omega)).symm, rfl⟩
    · go_wp2
      go_ret
      exact ⟨ret_int (idx_none fun i hi => Hno.out i (by omega) hi).symm, rfl⟩
theorem containsS_any (v : Value) (l : List ByteArray) (s : ByteArray) (w : World) (hv : Strs w v l) :
    Calls Tryz.prog 64 #[v, .string s] w fun e w' => e = .returned (.bool (inB l s)) ∧ w = w' := by
  have HV := Lib.hid hv
  obtain ⟨a, c, rfl, -⟩ := hv.shape
  have hq := idx_in (l := l) (n := s)
  have Hq := Lib.hid hq
  clear hv hq
  go_enter Tryz.func64, Tryz.ntmps64
  go_wp2_with fail
  refine (indexS_any _ l s _ HV.out).mono ?_
  rintro e w1 ⟨rfl, rfl⟩
  go_wp2
  go_ret
  exact ⟨ret_bool Hq.out, rfl⟩
/-- What l04Uses comes to. -/
def UsesPost (l : List StemD) (n : ByteArray) (w : World) (e : Ending) : Prop :=
  (stmI l n = -1 ∧ e = .returned (.tuple #[.slice none 0 0, .bool false])) ∨ ∃ j, ∃ hj : j < l.length, ∃ u, stmI l n = (j : Int) ∧ Strs w u l[j].uses ∧ e = .returned (.tuple #[u, .bool true])
theorem l04Uses_any (g : Nat) (s2 : Value) (l : List StemD) (n : ByteArray) (w : World) (hc1 : w.cell? ⟨g, 1, none⟩ = some s2) (ha : Stems w s2 l) :
    Calls Tryz.prog 39 #[.pointer (some ⟨g, 0, none⟩), .string n] w fun e w' => UsesPost l n w e ∧ w = w' := by
  obtain ⟨a, c, rfl, hl, hc, hcs⟩ := ha.shape
  unfold maxLen at hc
  clear ha
  go_enter Tryz.func39, Tryz.ntmps39
  go_wp2
  go_loop [6] (fun i => ∃ k : Nat, k ≤ l.length ∧ i = .int .i64 k ∧ ∀ i (_hi : i < k), (h : i < l.length) → l[i].word ≠ n) (fun i => l.length - (intOf i).toNat)
  case atStart => exact ⟨0, by omega, rfl, fun i hi => by omega⟩
  case round =>
    obtain ⟨k, hk, rfl, hno⟩ := hrel
    have Hno := Lib.hid hno; clear hno
    by_cases hlt : k < l.length
    · obtain ⟨b, off, u, rfl, h0, h1, -, hu⟩ := hcs k hlt
      have Hu := Lib.hid hu
      clear hcs hu
      cases he : (l[k].word.toList == n.toList)
      · have He := Lib.hid (bytes_ne_of he)
        go_wp2
        go_round
        case rel => exact ⟨k + 1, by omega, by go_num, fun i hi h => by
          rcases Nat.lt_succ_iff_lt_or_eq.1 hi with h2 | rfl
          · exact Hno.out i h2 h
          · exact He.out⟩
        case measure => simp [intOf]; omega
      · have He := Lib.hid (bytes_eq_of he)
        go_wp2
        go_ret2
        exact ⟨.inr ⟨k, hlt, _, stm_hit hlt He.out fun i hi => Hno.out i hi (by omega), Hu.out, rfl⟩, rfl⟩
    · go_wp2
      go_ret2
      exact ⟨.inl ⟨stm_none fun i hi => Hno.out i (by omega) hi, rfl⟩, rfl⟩
attribute [local irreducible] Calls
theorem isDer1_any (x : StemD) (u : Value) (n : ByteArray) (g : Nat) (w : World) (hc : w.cell? ⟨g, 0, none⟩ = some (.string n)) :
    Calls Tryz.prog 63 #[.agg #[.string x.word, u], .pointer (some ⟨g, 0, none⟩)] w fun e w' => e = .returned (.bool (decide (x.word = n))) ∧ Below w.heap.size w w' := by
  have hn := cell_alloc (.cells #[.string x.word, u] 59) hc
  have hb0 : Below w.heap.size w (w.alloc (.cells #[.string x.word, u] 59)) := (Below.refl _ _).alloc (Nat.le_refl _) _
  cases he : (x.word.toList == n.toList)
  · have He := Lib.hid (bytes_ne_of he)
    go_enter Tryz.func63, Tryz.ntmps63
    go_wp2
    go_ret
    exact ⟨ret_bool (decide_eq_false He.out).symm, hb0⟩
  · have He := Lib.hid (bytes_eq_of he)
    go_enter Tryz.func63, Tryz.ntmps63
    go_wp2
    go_ret
    exact ⟨ret_bool (decide_eq_true He.out).symm, hb0⟩
set_option maxHeartbeats 1000000 in
theorem indexStem_any (v : Value) (l : List StemD) (n : ByteArray) (g : Nat) (w : World) (ha : Stems w v l) (hc : w.cell? ⟨g, 0, none⟩ = some (.string n)) :
    Calls Tryz.prog 62 #[v, .func (.func 63) #[] #[.pointer (some ⟨g, 0, none⟩)]] w fun e w' => e = .returned (.int .i64 (stmI l n)) ∧ Below w.heap.size w w' := by
  obtain ⟨a, c, rfl, hl, hc2, hcs⟩ := ha.shape
  unfold maxLen at hc2
  clear ha
  have hcl := Tryz.call63
  go_enter Tryz.func62, Tryz.ntmps62
  go_wp2
  go_loopw [8] (fun i wr => ∃ k : Nat, k ≤ l.length ∧ i = .int .i64 k ∧ (∀ i (_hi : i < k), (h : i < l.length) → l[i].word ≠ n) ∧ Below w.heap.size w wr) (fun i _ => l.length - (intOf i).toNat)
  case atStart => exact ⟨0, by omega, rfl, fun i hi => by omega, Below.refl _ _⟩
  case round =>
    obtain ⟨k, hk, rfl, hno, hb⟩ := hrel
    have Hno := Lib.hid hno; clear hno
    by_cases hlt : k < l.length
    · obtain ⟨b, off, u, rfl, h0, h1, -, hu⟩ := hcs k hlt
      have h0 := cell_below hb h0
      have h1 := cell_below hb h1
      have Hc := Lib.hid (cell_below hb hc)
      obtain ⟨ua, uc, rfl, -⟩ := hu.shape
      have HB := Lib.hid hb
      clear hcs hu hb hc
      cases he : decide (l[k].word = n)
      · have He := Lib.hid (of_decide_eq_false he)
        go_wp2_with fail
        refine (isDer1_any l[k] _ n g _ Hc.out).mono ?_
        rw [he]
        rintro e w1 ⟨rfl, hb1⟩
        have HB1 := Lib.hid (HB.out.trans (hb1.mono HB.out.size))
        clear hb1 he
        go_wp2
        go_roundw
        case rel => exact ⟨k + 1, by omega, by go_num, fun i hi h => by
          rcases Nat.lt_succ_iff_lt_or_eq.1 hi with h2 | rfl
          · exact Hno.out i h2 h
          · exact He.out, HB1.out⟩
        case measure => simp [intOf]; omega
      · have He := Lib.hid (of_decide_eq_true he)
        go_wp2_with fail
        refine (isDer1_any l[k] _ n g _ Hc.out).mono ?_
        rw [he]
        rintro e w1 ⟨rfl, hb1⟩
        have HB1 := Lib.hid (HB.out.trans (hb1.mono HB.out.size))
        clear hb1 he
        go_wp2
        go_ret
        exact ⟨ret_int (stm_hit hlt He.out fun i hi => Hno.out i hi (by omega)).symm, HB1.out⟩
    · go_wp2
      go_ret
      exact ⟨ret_int (stm_none fun i hi => Hno.out i (by omega) hi).symm, hb⟩
end Go.Proofs.YtndfhmphlomeiaaGreatDoor
/- The functions of the reference on an affix that lies at any offset. Conditions: the readings; words of bounded length. -/
namespace Go.Proofs.YtndfhmphlomeiaaGreatDoor
open Go.RowKit
theorem AffAt.below {w w' : World} {g o x} (h : AffAt w g o x) (hb : Below w.heap.size w w') : AffAt w' g o x :=
  ⟨cell_below hb h.c0, cell_below hb h.c1, cell_below hb h.c2, cell_below hb h.c3, cell_below hb h.c4, h.l⟩
theorem AffAt.drewN {w : World} {g o x} (h : AffAt w g o x) (q : Nat) : AffAt (w.drewN q) g o x := h.below (below_drewN (Below.refl _ _) q)
attribute [local irreducible] Calls
theorem l04EndAt_yes (g o : Nat) (x : AffD) (s : ByteArray) (z : Int) (n : Nat) (w : World) (h1 : w.cell? ⟨g, o + 1, none⟩ = some (.bool x.front)) (hs : s.size ≤ maxLen) (hz : z = (n : Int)) (hn : n ≤ s.size) :
    Calls Tryz.prog 104 #[.pointer (some ⟨g, o, none⟩), .string s, .int .i64 z] w fun e w' => e = .returned (.tuple #[.string (endB x s n), .bool true]) ∧ w = w' := by
  subst hz
  unfold maxLen at hs
  have hd : (((s.size : Int)) - (n : Int)).toNat = s.size - n := by omega
  have Hd := Lib.hid hd
  clear hd
  cases hf : x.front
  all_goals
    have Hf := Lib.hid hf
    rw [hf] at h1
    clear hf
    go_enter Tryz.func104, Tryz.ntmps104
    go_wp2
    go_ret2
    exact ⟨ret_sb (by rw [endB, Hf.out]; first | rfl | (rw [Hd.out]; rfl)) rfl, rfl⟩
theorem l04EndAt_no (g o : Nat) (x : AffD) (s : ByteArray) (z : Int) (n : Nat) (w : World) (_h1 : w.cell? ⟨g, o + 1, none⟩ = some (.bool x.front)) (_hs : s.size ≤ maxLen) (hz : z = (n : Int)) (hn : s.size < n) :
    Calls Tryz.prog 104 #[.pointer (some ⟨g, o, none⟩), .string s, .int .i64 z] w fun e w' => e = .returned (.tuple #[.string ⟨#[]⟩, .bool false]) ∧ w = w' := by
  subst hz
  unfold maxLen at _hs
  go_enter Tryz.func104, Tryz.ntmps104
  go_wp2
  go_ret2
  exact ⟨rfl, rfl⟩
theorem l04RestAt_any (g o : Nat) (x : AffD) (s : ByteArray) (z : Int) (n : Nat) (w : World) (h1 : w.cell? ⟨g, o + 1, none⟩ = some (.bool x.front)) (hs : s.size ≤ maxLen) (hz : z = (n : Int)) (hn : n ≤ s.size) :
    Calls Tryz.prog 89 #[.pointer (some ⟨g, o, none⟩), .string s, .int .i64 z] w fun e w' => e = .returned (.string (restB x s n)) ∧ w = w' := by
  subst hz
  unfold maxLen at hs
  have hd : (((s.size : Int)) - (n : Int)).toNat = s.size - n := by omega
  have Hd := Lib.hid hd
  clear hd
  cases hf : x.front
  all_goals
    have Hf := Lib.hid hf
    rw [hf] at h1
    clear hf
    go_enter Tryz.func89, Tryz.ntmps89
    go_wp2
    go_ret
    exact ⟨ret_str (by rw [restB, Hf.out]; first | rfl | (rw [Hd.out]; rfl)), rfl⟩
theorem l04JoinAt_any (g o : Nat) (x : AffD) (r p : ByteArray) (w : World) (h1 : w.cell? ⟨g, o + 1, none⟩ = some (.bool x.front)) (hr : r.size ≤ 1048576) (hp : p.size ≤ 1048576) :
    Calls Tryz.prog 88 #[.pointer (some ⟨g, o, none⟩), .string r, .string p] w fun e w' => e = .returned (.string (joinB x r p)) ∧ w = w' := by
  cases hf : x.front
  all_goals
    have Hf := Lib.hid hf
    rw [hf] at h1
    clear hf
    go_enter Tryz.func88, Tryz.ntmps88
    go_wp2
    go_ret
    exact ⟨ret_str (by rw [joinB, Hf.out]; rfl), rfl⟩
set_option maxHeartbeats 4000000 in
set_option maxRecDepth 20000 in
theorem l04MatchesAt_any (g o : Nat) (x : AffD) (s : ByteArray) (w : World) (hx : AffAt w g o x) (hs : s.size ≤ maxLen) :
    Calls Tryz.prog 87 #[.pointer (some ⟨g, o, none⟩), .string s] w fun e w' => e = .returned (.bool (matB x s)) ∧ ∃ q, w' = w.drewN q := by
  have HX := Lib.hid hx
  have c1 := hx.c1
  have c2 := hx.c2
  have c3 := hx.c3
  have hl2 := hx.l.c
  have hl3 := hx.l.s
  have Hs := Lib.hid hs
  unfold maxLen at hl2 hl3 hs
  clear hx
  by_cases hc : x.cond.size ≤ s.size
  · have HC := Lib.hid hc
    have HEs := Lib.hid (endB_size (x := x) hc)
    obtain ⟨E, hE⟩ : ∃ E, E = endB x s x.cond.size := ⟨_, rfl⟩
    have HE := Lib.hid hE
    rw [← hE] at HEs
    clear hE
    go_enter Tryz.func87, Tryz.ntmps87
    go_wp2_with fail
    refine (l04EndAt_yes g o x s _ x.cond.size _ c1 Hs.out rfl hc).mono ?_
    rw [← HE.out]
    rintro e w1 ⟨rfl, rfl⟩
    go_wp2
    go_loopw [7] (fun i wr => ∃ k q : Nat, k ≤ x.cond.size ∧ i = .int .i64 (k : Int) ∧ Hid (wildTo x.cond E k) ∧ wr = w.drewN q) (fun i _ => x.cond.size - (intOf i).toNat)
    case atStart => exact ⟨0, 0, by omega, rfl, Lib.hid fun i h => by omega, rfl⟩
    case round =>
      obtain ⟨k, q, hk, rfl, Hl, hw⟩ := hrel
      have HXr := Lib.hid (show AffAt wr g o x by rw [hw]; exact HX.out.drewN q)
      have Hw := Lib.hid hw
      have k1 := HXr.out.c1
      have k2 := HXr.out.c2
      have k3 := HXr.out.c3
      clear hw c1 c2 c3
      by_cases hlt : k < x.cond.size
      · have hkE : k < E.size := by have := HEs.out; omega
        have hkI : (k : Int) < (x.cond.size : Int) := by omega
        have hkI2 : (k : Int) < (E.size : Int) := by omega
        cases hd : ((x.cond[k].toNat : Int) == 46)
        · have Hd := Lib.hid (not46 hd)
          have hb1 : ((x.cond[k].toNat : Int) != 46) = true := by rw [bne, hd]; rfl
          cases he : ((x.cond[k].toNat : Int) == (E[k].toNat : Int))
          · have He := Lib.hid (u8_ne he)
            have hb2 : ((x.cond[k].toNat : Int) != (E[k].toNat : Int)) = true := by rw [bne, he]; rfl
            go_wp2
            go_quiet (fail)
            go_wp2
            go_ret
            exact ⟨ret_bool (matB_at HE.out hlt hkE Hd.out He.out), q + nq, by rw [Hw.out, drewN_twoG]⟩
          · have He := Lib.hid (u8_eq he)
            have hb2 : ((x.cond[k].toNat : Int) != (E[k].toNat : Int)) = false := by rw [bne, he]; rfl
            go_wp2
            go_quiet (fail)
            go_wp2
            go_roundw
            case rel => exact ⟨k + 1, q + nq, by omega, by go_num, Lib.hid (Hl.out.step hlt hkE (.inr He.out)), by rw [Hw.out, drewN_twoG]⟩
            case measure => simp [intOf]; omega
        · have Hd := Lib.hid (is46 hd)
          have hb1 : ((x.cond[k].toNat : Int) != 46) = false := by rw [bne, hd]; rfl
          go_wp2
          go_quiet (fail)
          go_wp2
          go_roundw
          case rel => exact ⟨k + 1, q + nq, by omega, by go_num, Lib.hid (Hl.out.step hlt hkE (.inl Hd.out)), by rw [Hw.out, drewN_twoG]⟩
          case measure => simp [intOf]; omega
      · have hd0 : decide (k < E.size) = false := by rw [decide_eq_false_iff_not]; have := HEs.out; omega
        have HW := Lib.hid (show wildTo x.cond (endB x s x.cond.size) x.cond.size by rw [← HE.out]; obtain rfl : k = x.cond.size := (by omega); exact Hl.out)
        by_cases hst : x.strip.size ≤ s.size
        · have HST := Lib.hid hst
          cases he : ((endB x s x.strip.size).toList == x.strip.toList)
          all_goals
            have He := Lib.hid he
            go_wp2_with fail
            refine (l04EndAt_yes g o x s _ x.strip.size _ k1 Hs.out rfl hst).mono ?_
            rintro e w1 ⟨rfl, rfl⟩
            go_wp2
            go_ret
          · exact ⟨ret_bool (matB_cut HC.out HW.out (cutB_no2 (bytes_ne_of He.out))), q, Hw.out⟩
          · exact ⟨ret_bool (matB_cut HC.out HW.out (cutB_iff.2 ⟨HST.out, bytes_eq_of He.out⟩)), q, Hw.out⟩
        · have HST := Lib.hid hst
          go_wp2_with fail
          refine (l04EndAt_no g o x s _ x.strip.size _ k1 Hs.out rfl (by omega)).mono ?_
          rintro e w1 ⟨rfl, rfl⟩
          go_wp2
          go_ret
          exact ⟨ret_bool (matB_cut HC.out HW.out (cutB_no1 HST.out)), q, Hw.out⟩
  · have HC := Lib.hid hc
    go_enter Tryz.func87, Tryz.ntmps87
    go_wp2_with fail
    refine (l04EndAt_no g o x s _ x.cond.size _ c1 Hs.out rfl (by omega)).mono ?_
    rintro e w1 ⟨rfl, rfl⟩
    go_wp2
    go_ret
    exact ⟨ret_bool (matB_short HC.out), 0, rfl⟩
set_option maxHeartbeats 2000000 in
set_option maxRecDepth 20000 in
theorem l04ApplyAt_any (g o : Nat) (x : AffD) (s : ByteArray) (w : World) (hx : AffAt w g o x) (ha : affB x = true) (hl : isLong s = true) :
    Calls Tryz.prog 68 #[.pointer (some ⟨g, o, none⟩), .string s] w fun e w' => e = .returned (.tuple #[.string (apV x s).1, .int .i64 (apV x s).2]) ∧ Below w.heap.size w w' := by
  have HX := Lib.hid hx
  have Ha := Lib.hid ha
  have h12 := isLong_12 hl
  have Hs := Lib.hid (le_max h12)
  have hl3 := hx.l.s
  have hl4 := hx.l.a
  unfold maxLen at hl3 hl4
  clear hx ha hl
  cases hm : matB x s
  · have Hm := Lib.hid hm
    go_enter Tryz.func68, Tryz.ntmps68
    go_wp2_with fail
    refine (l04MatchesAt_any g o x s _ HX.out Hs.out).mono ?_
    rw [hm]
    rintro e w1 ⟨rfl, q, rfl⟩
    go_wp2
    go_ret2
    exact ⟨ret_si (apV_no Hm.out), below_drewN (Below.refl _ _) q⟩
  · have Hm := Lib.hid hm
    have hpn := (cutB_iff.1 (matB_strip hm)).1
    obtain ⟨hz1, hz2, hz3⟩ := out_size Ha.out h12 hpn
    have Hz := Lib.hid (le_max hz3)
    have Hout := Lib.hid (show joinB x (restB x s x.strip.size) x.add = outB x s from rfl)
    go_enter Tryz.func68, Tryz.ntmps68
    go_wp2_with fail
    refine (l04MatchesAt_any g o x s _ HX.out Hs.out).mono ?_
    rw [hm]
    rintro e w1 ⟨rfl, q, hw1⟩
    have HB1 := Lib.hid (show Below w.heap.size w w1 by rw [hw1]; exact below_drewN (Below.refl _ _) q)
    have k1 := (HX.out.below HB1.out).c1
    have k3 := (HX.out.below HB1.out).c3
    have k4 := (HX.out.below HB1.out).c4
    clear hw1 hm
    go_wp2
    go_quiet ((first | (go_at_call 89; exact quiet_eq (l04RestAt_any g o x s _ x.strip.size _ k1 Hs.out rfl hpn)) | (go_at_call 88; exact quiet_eq (l04JoinAt_any g o x _ _ _ k1 (by omega) (by omega)))))
    rw [Hout.out]
    have HB2 := Lib.hid (below_drewN HB1.out nq)
    generalize w1.drewN nq = w2 at HB2 ⊢
    clear k1 k3 k4
    cases hlo : isLong (outB x s)
    all_goals
      have Hlo := Lib.hid hlo
      go_wp2_with fail
      refine (l05Long_any _ _ Hz.out).mono ?_
      rw [hlo]
      rintro e w3 ⟨rfl, rfl⟩
      clear hlo
      go_wp2
      go_ret2
    · exact ⟨ret_si (apV_far Hm.out Hlo.out), HB2.out⟩
    · exact ⟨ret_si (apV_yes Hm.out Hlo.out), HB2.out⟩
end Go.Proofs.YtndfhmphlomeiaaGreatDoor
/- ValidGrammar of the program: affixNamed, validStem. No condition but the readings. -/
namespace Go.Proofs.YtndfhmphlomeiaaGreatDoor
open Go.RowKit
attribute [local irreducible] Calls
set_option maxHeartbeats 4000000 in
theorem affixNamed_is (v : Value) (x : GraD) (n : ByteArray) (w : World) (hv : GraR w v x) :
    Calls Tryz.prog 66 #[v, .string n] w fun e w' => e = .returned (.tuple #[.agg #[.string (affOf x.affixes n).name, .bool (affOf x.affixes n).front, .string (affOf x.affixes n).cond, .string (affOf x.affixes n).strip, .string (affOf x.affixes n).add], .bool (hasB x.affixes n)]) ∧ Below w.heap.size w w' := by
  obtain ⟨s1, s2, rfl, ha, hs⟩ := hv
  obtain ⟨a1, c1, rfl, hl, hc, hcs⟩ := ha.shape
  obtain ⟨a2, c2, rfl, _⟩ := hs.shape
  unfold maxLen at hc
  clear ha hs
  go_enter Tryz.func66, Tryz.ntmps66
  go_wp2
  go_loopw [11] (fun i wr => ∃ k : Nat, k ≤ x.affixes.length ∧ i = .int .i64 k ∧ (∀ i (hi : i < k), (h : i < x.affixes.length) → x.affixes[i].name ≠ n) ∧ wr.heap[w.heap.size + 1]? = some (.cells #[.string ⟨#[]⟩, .bool false, .string ⟨#[]⟩, .string ⟨#[]⟩, .string ⟨#[]⟩] 51 (0, 0)) ∧ Below w.heap.size w wr) (fun i _ => x.affixes.length - (intOf i).toNat)
  case atStart => exact ⟨0, by omega, rfl, fun i hi => by omega, heap_alloc2_new w _ _, ((Below.refl _ _).alloc (Nat.le_refl _) _).alloc (by simp) _⟩
  case round =>
    obtain ⟨k, hk, rfl, hno, hR, hb⟩ := hrel
    have Hno := Lib.hid hno
    have HR := Lib.hid hR
    have hsz := hb.size
    have hlt2 := (Array.getElem?_eq_some_iff.1 hR).1
    clear hno hR
    by_cases hlt : k < x.affixes.length
    · obtain ⟨b, off, rfl, e0, e1, e2, e3, e4, -⟩ := hcs k hlt
      have e0 := (hb.cell (cell_lt e0)).trans e0
      have e1 := (hb.cell (cell_lt e1)).trans e1
      have e2 := (hb.cell (cell_lt e2)).trans e2
      have e3 := (hb.cell (cell_lt e3)).trans e3
      have e4 := (hb.cell (cell_lt e4)).trans e4
      have hbn : Below wr.heap.size wr (wr.alloc (.cells #[.string x.affixes[k].name, .bool x.affixes[k].front, .string x.affixes[k].cond, .string x.affixes[k].strip, .string x.affixes[k].add] 51)) := (Below.refl _ _).alloc (Nat.le_refl _) _
      have hRn := (hbn.block (w.heap.size + 1) hlt2).trans HR.out
      have HRn := Lib.hid hRn
      have hbB := hb.trans (hbn.mono hsz)
      clear hcs hRn hbn
      cases he : (x.affixes[k].name.toList == n.toList)
      · have He := Lib.hid (bytes_ne_of he)
        go_wp2
        go_roundw
        case rel => exact ⟨k + 1, by omega, by go_num, fun i hi h => by
          rcases Nat.lt_succ_iff_lt_or_eq.1 hi with h2 | rfl
          · exact Hno.out i h2 h
          · exact He.out, HRn.out, hbB⟩
        case measure => simp [intOf]; omega
      · have He := Lib.hid (bytes_eq_of he)
        obtain ⟨a0, y0⟩ := src_cell (w := wr) (i := 0) (v := (.string ⟨#[]⟩)) HR.out rfl
        obtain ⟨a1, y1⟩ := src_cell (w := wr) (i := 1) (v := (.bool false)) HR.out rfl
        obtain ⟨a2, y2⟩ := src_cell (w := wr) (i := 2) (v := (.string ⟨#[]⟩)) HR.out rfl
        obtain ⟨a3, y3⟩ := src_cell (w := wr) (i := 3) (v := (.string ⟨#[]⟩)) HR.out rfl
        obtain ⟨a4, y4⟩ := src_cell (w := wr) (i := 4) (v := (.string ⟨#[]⟩)) HR.out rfl
        go_wp2
        have st := store5 HR.out (.string x.affixes[k].name) (.bool x.affixes[k].front) (.string x.affixes[k].cond) (.string x.affixes[k].strip) (.string x.affixes[k].add)
        refine bodyPost_ret (v := .tuple #[.agg #[.string x.affixes[k].name, .bool x.affixes[k].front, .string x.affixes[k].cond, .string x.affixes[k].strip, .string x.affixes[k].add], .bool true]) (results_cell_rowU (p := 4) (u := 5) (ty := 51) rfl _ _ (w.heap.size + 1) _ _ _ _ rfl ((Below.heap_alloc _ _ _ (by rw [st.2.2]; exact hlt2)).trans st.1) Tryz.underlying51 rfl infoAffix) rfl
          ⟨by rw [affOf_at hlt He.out fun i hi => Hno.out i hi (by omega), show hasB x.affixes n = true from List.any_eq_true.2 ⟨_, List.getElem_mem hlt, by simpa using He.out⟩], (hb.trans (st.2.1.below (by omega) hb.size)).alloc (by rw [st.2.2]; exact hsz) _⟩
    · obtain ⟨a0, y0⟩ := src_cell (w := wr) (i := 0) (v := (.string ⟨#[]⟩)) HR.out rfl
      obtain ⟨a1, y1⟩ := src_cell (w := wr) (i := 1) (v := (.bool false)) HR.out rfl
      obtain ⟨a2, y2⟩ := src_cell (w := wr) (i := 2) (v := (.string ⟨#[]⟩)) HR.out rfl
      obtain ⟨a3, y3⟩ := src_cell (w := wr) (i := 3) (v := (.string ⟨#[]⟩)) HR.out rfl
      obtain ⟨a4, y4⟩ := src_cell (w := wr) (i := 4) (v := (.string ⟨#[]⟩)) HR.out rfl
      have hnb : hasB x.affixes n = false := by
        rw [hasB, List.any_eq_false]
        intro y hy
        obtain ⟨i, hi, rfl⟩ := List.getElem_of_mem hy
        simpa using Hno.out i (by omega) hi
      clear hcs
      go_wp2
      have st := store5 HR.out (.string ⟨#[]⟩) (.bool false) (.string ⟨#[]⟩) (.string ⟨#[]⟩) (.string ⟨#[]⟩)
      refine bodyPost_ret (v := .tuple #[.agg #[.string ⟨#[]⟩, .bool false, .string ⟨#[]⟩, .string ⟨#[]⟩, .string ⟨#[]⟩], .bool false]) (results_cell_rowU (p := 4) (u := 5) (ty := 51) rfl _ _ (w.heap.size + 1) _ _ _ _ rfl st.1 Tryz.underlying51 rfl infoAffix) rfl
        ⟨by rw [hnb, affOf_none fun i hi => Hno.out i (by omega) hi]; rfl, hb.trans (st.2.1.below (by omega) hb.size)⟩
theorem affixNamed_any (v : Value) (x : GraD) (n : ByteArray) (w : World) (hv : GraR w v x) :
    Calls Tryz.prog 66 #[v, .string n] w fun e w' => (∃ r : AffD, e = .returned (.tuple #[.agg #[.string r.name, .bool r.front, .string r.cond, .string r.strip, .string r.add], .bool (hasB x.affixes n)])) ∧ Below w.heap.size w w' :=
  (affixNamed_is v x n w hv).mono fun _ _ ⟨h, hb⟩ => ⟨⟨_, h⟩, hb⟩
set_option maxHeartbeats 4000000 in
theorem validStem_any (v : Value) (x : GraD) (u : Value) (s : StemD) (w : World) (hv : GraR w v x) (hw : s.word.size ≤ maxLen) (hu : Strs w u s.uses) :
    Calls Tryz.prog 49 #[v, .agg #[.string s.word, u]] w fun e w' => e = .returned (.bool (stemB x.affixes s)) ∧ Below w.heap.size w w' := by
  have HV := Lib.hid hv
  have HU := Lib.hid hu
  have HW := Lib.hid hw
  obtain ⟨s1, s2, rfl, ha, hs⟩ := hv
  obtain ⟨a1, c1, rfl, _⟩ := ha.shape
  obtain ⟨a2, c2, rfl, _⟩ := hs.shape
  obtain ⟨a3, c3, rfl, hl, hc, hcs⟩ := hu.shape
  unfold maxLen at hc
  clear ha hs hu hw
  go_enter Tryz.func49, Tryz.ntmps49
  go_wp2
  go_loopw [12] (fun i wr => ∃ k : Nat, k ≤ s.uses.length ∧ i = .int .i64 k ∧ (∀ i (hi : i < k), (h : i < s.uses.length) → hasB x.affixes s.uses[i] = true) ∧
      wr.cell? ⟨w.heap.size, 0, none⟩ = some (.slice a1 x.affixes.length c1) ∧ wr.cell? ⟨w.heap.size, 1, none⟩ = some (.slice a2 x.stems.length c2) ∧ wr.cell? ⟨w.heap.size + 1, 0, none⟩ = some (.string s.word) ∧ wr.cell? ⟨w.heap.size + 1, 1, none⟩ = some (.slice a3 s.uses.length c3) ∧ Below w.heap.size w wr) (fun i _ => s.uses.length - (intOf i).toNat)
  case atStart => exact ⟨0, by omega, rfl, fun i hi => by omega, (src_cell (heap_alloc2_old w _ _) rfl).1, (src_cell (heap_alloc2_old w _ _) rfl).1, (src_cell (heap_alloc2_new w _ _) rfl).1, (src_cell (heap_alloc2_new w _ _) rfl).1, ((Below.refl _ _).alloc (Nat.le_refl _) _).alloc (by simp) _⟩
  case round =>
    obtain ⟨k, hk, rfl, hall, g0, g1, p0, p1, hb⟩ := hrel
    have Hall := Lib.hid hall
    have HB := Lib.hid hb
    have hsz := hb.size
    clear hall
    by_cases hlt : k < s.uses.length
    · obtain ⟨b, off, rfl, e0, -⟩ := hcs k hlt
      have e0 := (hb.cell (cell_lt e0)).trans e0
      clear hcs hb
      go_wp2_with fail
      refine (affixNamed_any _ x s.uses[k] _ (HV.out.below HB.out)).mono ?_
      rintro e w2 ⟨⟨r, rfl⟩, hb2⟩
      have g0 := cell_below hb2 g0
      have g1 := cell_below hb2 g1
      have p0 := cell_below hb2 p0
      have p1 := cell_below hb2 p1
      have HB2 := Lib.hid (HB.out.trans (hb2.mono hsz))
      have hsz2 := HB2.out.size
      clear hb2
      cases hd : hasB x.affixes s.uses[k]
      · have Hd := Lib.hid hd
        go_wp2
        go_ret
        refine ⟨ret_bool ?_, HB2.out.alloc hsz2 _⟩
        rw [stemB, show s.uses.all (hasB x.affixes) = false by rw [List.all_eq_false]; exact ⟨_, List.getElem_mem hlt, by simp [Hd.out]⟩]; rfl
      · have Hd := Lib.hid hd
        go_wp2
        go_roundw
        case rel =>
          have hbn : ∀ o, Below w2.heap.size w2 (w2.alloc o) := fun o => (Below.refl _ _).alloc (Nat.le_refl _) _
          exact ⟨k + 1, by omega, by go_num, fun i hi h => by
            rcases Nat.lt_succ_iff_lt_or_eq.1 hi with h2 | rfl
            · exact Hall.out i h2 h
            · exact Hd.out, cell_below (hbn _) g0, cell_below (hbn _) g1, cell_below (hbn _) p0, cell_below (hbn _) p1, HB2.out.alloc hsz2 _⟩
        case measure => simp [intOf]; omega
    · have hal : s.uses.all (hasB x.affixes) = true := List.all_eq_true.2 fun y hy => by
        obtain ⟨i, hi, rfl⟩ := List.getElem_of_mem hy
        exact Hall.out i (by omega) hi
      have Hal := Lib.hid hal
      clear hcs hal hb
      cases hL : isLong s.word
      · have HL := Lib.hid hL
        go_wp2_with (go_at_call 73; refine (isLong_any s.word _ HW.out).mono ?_; rintro e w2 ⟨rfl, hb2⟩; rw [HL.out])
        go_ret
        exact ⟨ret_bool (by rw [stemB, HL.out, Bool.and_false]), HB.out.trans (hb2.mono hsz)⟩
      · have HL := Lib.hid hL
        go_wp2_with (first
          | (go_at_call 73; refine (isLong_any s.word _ HW.out).mono ?_; rintro e w2 ⟨rfl, hb2⟩; rw [HL.out]; have p1 := cell_below hb2 p1; have hb2 := HB.out.trans (hb2.mono hsz))
          | (go_at_call 74; refine (increasing_any _ s.uses _ (HU.out.below hb2)).mono ?_; rintro e w3 ⟨rfl, hb3⟩))
        go_ret
        exact ⟨ret_bool (by rw [stemB, HL.out, Hal.out, Bool.and_true, Bool.true_and]), hb2.trans (hb3.mono hb2.size)⟩
end Go.Proofs.YtndfhmphlomeiaaGreatDoor
/- Contracts of (*strings.Builder).copyCheck, WriteByte, WriteString at this program (its copyCheck is cut at the panic, so the shelf's do not lay): the shelf's proofs turned to it. Condition: Go's own bound on the length. -/
namespace Go.Proofs.YtndfhmphlomeiaaGreatDoor
open Go.RowKit
theorem sizeBuilder : (Tryz.prog.info? 49).map (·.size) = some 2 := by kernel_rfl
theorem liesBuilder : liesAt Tryz.prog Tryz.prog.depth 49 (2 / Tryz.prog.cellsOf 49) 0 49 1 = true := by kernel_rfl
theorem infoByte : (Tryz.prog.info? 5).map (fun i => (i.zero, i.size, i.bytes)) = some (some (.int .u8 0), 1, 1) := by kernel_rfl
/-- A builder in block b that holds the bytes l. -/
def IsB (B b : Nat) (l : List UInt8) (w : World) : Prop := Lib.IsBuilder 49 5 B b (Lib.byteCells l) w
theorem IsB.fresh (w : World) (B : Nat) (h : B ≤ w.heap.size) : IsB B w.heap.size [] (w.alloc (.cells #[.pointer none, .slice none 0 0] 49)) :=
  .inl ⟨h, .slice none 0 0, heap_alloc_new w _, World.ownsRow_nil _ _ _ _, by simp [Value.ownBlock]⟩
set_option maxHeartbeats 1000000 in
set_option maxRecDepth 100000 in
theorem copyCheck_used (b : Nat) (w : World) (h0 : w.cell? ⟨b, 0, none⟩ = some (.pointer (some ⟨b, 0, none⟩))) :
    Calls Tryz.prog 50 #[.pointer (some ⟨b, 0, none⟩)] w fun e w' => e = .returned (.tuple #[]) ∧ w' = w := by
  obtain ⟨j, hj, _⟩ := Option.map_eq_some_iff.1 sizeBuilder
  go_enter Tryz.func50, Tryz.ntmps50
  go_wp2
  rw [Lib.run_neq_ptr_same w _ Tryz.underlying47 hj]
  go_wp2
  go_end0
  exact ⟨rfl, rfl⟩
set_option maxHeartbeats 1000000 in
set_option maxRecDepth 100000 in
theorem copyCheck_fresh (b : Nat) (w : World) (h0 : w.cell? ⟨b, 0, none⟩ = some (.pointer none)) (hsh : w.shape? b = some (49, 2)) (hfz : w.frozen? ⟨b, 0, none⟩ = false) :
    Calls Tryz.prog 50 #[.pointer (some ⟨b, 0, none⟩)] w fun e w' => e = .returned (.tuple #[]) ∧ w' = w.setCell ⟨b, 0, none⟩ (.pointer (some ⟨b, 0, none⟩)) := by
  obtain ⟨j, hj, hjs⟩ := Option.map_eq_some_iff.1 sizeBuilder
  go_enter Tryz.func50, Tryz.ntmps50
  go_wp2
  rw [Lib.run_to_unsafe w ⟨b, 0, none⟩ Tryz.underlying47 Tryz.underlying112 hj (by rw [hjs]; decide) hsh (Nat.zero_lt_succ 1)]
  simp only [Result.andThen]
  rw [Oper.upon_value]
  go_wp2
  rw [run_callFunc_extern Tryz.func75 (by kernel_rfl) (by kernel_rfl) (by kernel_rfl) (e := Extern.AbiNoEscape.same) (by kernel_rfl)]
  rw [Lib.run_noEscape]
  simp only [Result.andThen]
  rw [Oper.upon_value]
  go_wp2
  rw [Lib.run_from_unsafe w ⟨b, 0, none⟩ Tryz.underlying112 Tryz.underlying47 hj hsh liesBuilder]
  simp only [Result.andThen]
  rw [Oper.upon_value]
  go_wp2
  go_end0
  exact ⟨rfl, rfl⟩
theorem copyCheck_any (B b : Nat) (bs : List Value) (w : World) (h : Lib.IsBuilder 49 5 B b bs w) :
    Calls Tryz.prog 50 #[.pointer (some ⟨b, 0, none⟩)] w fun e w' => e = .returned (.tuple #[]) ∧ (Lib.BuilderAt 49 5 B b (.pointer (some ⟨b, 0, none⟩)) bs w' ∧ Below B w w') := by
  rcases h with h | h
  · refine (copyCheck_fresh b w h.cell0 h.shape h.frozen0).mono ?_
    rintro e w' ⟨rfl, rfl⟩
    exact ⟨rfl, h.used _, (Below.refl B w).setCell (p := ⟨b, 0, none⟩) h.1 _⟩
  · refine (copyCheck_used b w h.cell0).mono ?_
    rintro e w' ⟨rfl, rfl⟩
    exact ⟨rfl, h, Below.refl B _⟩
set_option maxHeartbeats 2000000 in
set_option maxRecDepth 100000 in
theorem writeString_cells (B b : Nat) (bs : List Value) (s : ByteArray) (w : World) (h : Lib.IsBuilder 49 5 B b bs w) (hlen : bs.length + s.size ≤ 140737488355328) (hBw : B ≤ w.heap.size) :
    Calls Tryz.prog 21 #[.pointer (some ⟨b, 0, none⟩), .string s] w fun e w' => e = .returned (.tuple #[.int .i64 s.size, .nilIface]) ∧ (Lib.BuilderAt 49 5 B b (.pointer (some ⟨b, 0, none⟩)) (bs ++ Lib.strCells s) w' ∧ Below B w w') := by
  obtain ⟨i0, hi, hz0, hz1, hz2⟩ := info_parts infoByte
  go_enter Tryz.func21, Tryz.ntmps21
  go_wp2_with (go_at_call 50; refine (copyCheck_any B b bs _ h).mono ?_)
  rintro e w1 ⟨rfl, h1, hb1⟩
  obtain ⟨hB, v, hbk, hown, hne⟩ := h1
  have c0 : w1.cell? ⟨b, 0, none⟩ = some (.pointer (some ⟨b, 0, none⟩)) := by rw [Lib.cell_of_heap hbk]; rfl
  have c1 : w1.cell? ⟨b, 1, none⟩ = some v := by rw [Lib.cell_of_heap hbk]; rfl
  go_wp2_with (at_builtin; refine Lib.wpList_append_own_string _ rfl _ _ 22 9 rfl B 5 i0 Tryz.underlying22 Tryz.underlying9 hi hz0 hz1 hz2 _ _ _ rfl hown s rfl ?c3 ?c4 ?c5 ?_)
  case c3 => unfold maxLen; omega
  case c4 => omega
  case c5 => have := hb1.size; omega
  intro v' w2 hown' hgrow _
  have hlt : b < w1.heap.size := by
    rcases Nat.lt_or_ge b w1.heap.size with h' | h'
    · exact h'
    · simp [Array.getElem?_eq_none h'] at hbk
  have hb2 : w2.heap[b]? = some (.cells #[.pointer (some ⟨b, 0, none⟩), v] 49 (0, 0)) := by
    rw [hgrow.block b hlt (fun e => hne e.symm)]
    exact hbk
  have d0 : w2.cell? ⟨b, 0, none⟩ = some (.pointer (some ⟨b, 0, none⟩)) := by rw [Lib.cell_of_heap hb2]; rfl
  have d1 : w2.cell? ⟨b, 1, none⟩ = some v := by rw [Lib.cell_of_heap hb2]; rfl
  have f1 : w2.frozen? ⟨b, 1, none⟩ = false := Lib.frozen_of_heap hb2 1
  obtain ⟨ao, n', cap, rfl⟩ : ∃ ao n' cap, v' = .slice ao n' cap := by
    rcases hown'.2 with ⟨hv, _⟩ | ⟨g, cap, cur, hv, _⟩
    · exact ⟨_, _, _, hv⟩
    · exact ⟨_, _, _, hv⟩
  go_wp2
  go_ret2
  refine ⟨rfl, ?_, ?_⟩
  · exact Lib.BuilderAt.put (T := 49) (e := 5) hB hb2 (bs' := bs ++ Lib.strCells s) (by simpa [Lib.strCells_length] using hown') (by decide)
  · exact (hb1.grown hgrow (by have := hb1.size; omega) (fun k hk => (hown.lt k hk).1)).setCell (p := ⟨b, 1, none⟩) hB _
theorem writeString_any (B b : Nat) (l : List UInt8) (s : ByteArray) (w : World) (h : IsB B b l w) (hlen : l.length + s.size ≤ 140737488355328) (hBw : B ≤ w.heap.size) :
    Calls Tryz.prog 21 #[.pointer (some ⟨b, 0, none⟩), .string s] w fun e w' => e = .returned (.tuple #[.int .i64 s.size, .nilIface]) ∧ IsB B b (l ++ s.data.toList) w' ∧ Below B w w' := by
  refine (writeString_cells B b _ s w h (by rw [Lib.byteCells_length]; exact hlen) hBw).mono ?_
  rintro e w' ⟨rfl, h1, h2⟩
  exact ⟨rfl, .inr (by simpa [Lib.byteCells, Lib.strCells] using h1), h2⟩
end Go.Proofs.YtndfhmphlomeiaaGreatDoor
/- (*strings.Builder).WriteString once more, with what it leaves of a block that is younger than the builder's row. Condition: Go's own bound on the length. -/
namespace Go.Proofs.YtndfhmphlomeiaaGreatDoor
open Go.RowKit
theorem set_heapB {w : World} {g i : Nat} {cs : Array Value} {t : TypeId} {fr : Nat × Nat} (y : Value) (h : w.heap[g]? = some (.cells cs t fr)) : (w.setCell ⟨g, i, none⟩ y).heap[g]? = some (.cells (cs.setIfInBounds i y) t fr) := by
  simp [World.setCell, Array.getElem?_modify, h]
/-- What copyCheck leaves. -/
structure Chk (B b : Nat) (bs : List Value) (w w' : World) : Prop where
  below : Below B w w'
  at_ : Lib.BuilderAt 49 5 B b (.pointer (some ⟨b, 0, none⟩)) bs w'
  row : w'.cell? ⟨b, 1, none⟩ = w.cell? ⟨b, 1, none⟩
  block : ∀ k, k ≠ b → w'.heap[k]? = w.heap[k]?
theorem copyCheck_fr (B b : Nat) (bs : List Value) (w : World) (h : Lib.IsBuilder 49 5 B b bs w) :
    Calls Tryz.prog 50 #[.pointer (some ⟨b, 0, none⟩)] w fun e w' => e = .returned (.tuple #[]) ∧ Chk B b bs w w' := by
  rcases h with h | h
  · refine (copyCheck_fresh b w h.cell0 h.shape h.frozen0).mono ?_
    rintro e w' ⟨rfl, rfl⟩
    refine ⟨rfl, (Below.refl B w).setCell (p := ⟨b, 0, none⟩) h.1 _, h.used _, ?_, fun k hk => Below.heap_setCell _ _ _ _ (by show k ≠ b; exact hk)⟩
    obtain ⟨_, v, hbk, -⟩ := h
    have h2 := set_heapB (i := 0) (.pointer (some ⟨b, 0, none⟩)) hbk
    simp [World.cell?, h2, hbk]
  · refine (copyCheck_used b w h.cell0).mono ?_
    rintro e w' ⟨rfl, rfl⟩
    exact ⟨rfl, Below.refl B _, h, rfl, fun _ _ => rfl⟩
set_option maxHeartbeats 2000000 in
set_option maxRecDepth 100000 in
theorem writeString_fr (B b : Nat) (bs : List Value) (s : ByteArray) (w : World) (h : Lib.IsBuilder 49 5 B b bs w) (hlen : bs.length + s.size ≤ 140737488355328) (hBw : B ≤ w.heap.size) (K : Nat) (hK : K < w.heap.size) (hKb : K ≠ b) (hKr : ∀ v, w.cell? ⟨b, 1, none⟩ = some v → v.ownBlock ≠ some K) :
    Calls Tryz.prog 21 #[.pointer (some ⟨b, 0, none⟩), .string s] w fun e w' => e = .returned (.tuple #[.int .i64 s.size, .nilIface]) ∧ (Lib.BuilderAt 49 5 B b (.pointer (some ⟨b, 0, none⟩)) (bs ++ Lib.strCells s) w' ∧ Below B w w') ∧ w'.heap[K]? = w.heap[K]? := by
  obtain ⟨i0, hi, hz0, hz1, hz2⟩ := info_parts infoByte
  go_enter Tryz.func21, Tryz.ntmps21
  go_wp2_with (go_at_call 50; refine (copyCheck_fr B b bs _ h).mono ?_)
  rintro e w1 ⟨rfl, hchk⟩
  obtain ⟨hb1, ⟨hB, v, hbk, hown, hne⟩, hrow, hblk⟩ := hchk
  have c0 : w1.cell? ⟨b, 0, none⟩ = some (.pointer (some ⟨b, 0, none⟩)) := by rw [Lib.cell_of_heap hbk]; rfl
  have c1 : w1.cell? ⟨b, 1, none⟩ = some v := by rw [Lib.cell_of_heap hbk]; rfl
  have HKv := Lib.hid (hKr v (by rw [← hrow]; exact c1))
  have Hblk := Lib.hid hblk
  clear hrow hblk hKr
  go_wp2_with (at_builtin; refine Lib.wpList_append_own_string _ rfl _ _ 22 9 rfl B 5 i0 Tryz.underlying22 Tryz.underlying9 hi hz0 hz1 hz2 _ _ _ rfl hown s rfl ?c3 ?c4 ?c5 ?_)
  case c3 => unfold maxLen; omega
  case c4 => omega
  case c5 => have := hb1.size; omega
  intro v' w2 hown' hgrow _
  have hlt : b < w1.heap.size := by
    rcases Nat.lt_or_ge b w1.heap.size with h' | h'
    · exact h'
    · simp [Array.getElem?_eq_none h'] at hbk
  have hb2 : w2.heap[b]? = some (.cells #[.pointer (some ⟨b, 0, none⟩), v] 49 (0, 0)) := by
    rw [hgrow.block b hlt (fun e => hne e.symm)]
    exact hbk
  have d0 : w2.cell? ⟨b, 0, none⟩ = some (.pointer (some ⟨b, 0, none⟩)) := by rw [Lib.cell_of_heap hb2]; rfl
  have d1 : w2.cell? ⟨b, 1, none⟩ = some v := by rw [Lib.cell_of_heap hb2]; rfl
  have f1 : w2.frozen? ⟨b, 1, none⟩ = false := Lib.frozen_of_heap hb2 1
  have HKn : Hid (w2.heap[K]? = w.heap[K]?) := Lib.hid ((hgrow.block K (Nat.lt_of_lt_of_le hK hb1.size) (fun e => HKv.out e.symm)).trans (Hblk.out K hKb))
  obtain ⟨ao, n', cap, rfl⟩ : ∃ ao n' cap, v' = .slice ao n' cap := by
    rcases hown'.2 with ⟨hv, _⟩ | ⟨g, cap, cur, hv, _⟩
    · exact ⟨_, _, _, hv⟩
    · exact ⟨_, _, _, hv⟩
  go_wp2
  go_ret2
  refine ⟨rfl, ⟨?_, ?_⟩, (Below.heap_setCell _ _ _ _ (by show K ≠ b; exact hKb)).trans HKn.out⟩
  · exact Lib.BuilderAt.put (T := 49) (e := 5) hB hb2 (bs' := bs ++ Lib.strCells s) (by simpa [Lib.strCells_length] using hown') (by decide)
  · exact (hb1.grown hgrow (by have := hb1.size; omega) (fun k hk => (hown.lt k hk).1)).setCell (p := ⟨b, 1, none⟩) hB _
/-- A string is written; the block that was made behind w0, in which the builder stood already, stays. -/
theorem writeString_at (B b : Nat) (l : List UInt8) (s : ByteArray) (w0 w : World) (h : IsB B b l w0) (hb : Below w0.heap.size w0 w) (h' : IsB B b l w) (hK : w0.heap.size < w.heap.size) (hlen : l.length + s.size ≤ 140737488355328) (hBw : B ≤ w.heap.size) :
    Calls Tryz.prog 21 #[.pointer (some ⟨b, 0, none⟩), .string s] w fun e w' => e = .returned (.tuple #[.int .i64 s.size, .nilIface]) ∧ IsB B b (l ++ s.data.toList) w' ∧ Below B w w' ∧ w'.heap[w0.heap.size]? = w.heap[w0.heap.size]? := by
  obtain ⟨p, hB, v, hbk, hown, hne⟩ : ∃ p, Lib.BuilderAt 49 5 B b p (Lib.byteCells l) w0 := by
    rcases h with h | h <;> exact ⟨_, h⟩
  have hlt : b < w0.heap.size := (Array.getElem?_eq_some_iff.1 hbk).1
  refine (writeString_fr B b _ s w h' (by rw [Lib.byteCells_length]; exact hlen) hBw w0.heap.size hK (by omega) (fun u hu e => ?_)).mono ?_
  · have h1 : w0.cell? ⟨b, 1, none⟩ = some v := by rw [Lib.cell_of_heap hbk]; rfl
    rw [hb.cell (p := ⟨b, 1, none⟩) hlt, h1] at hu
    have := (World.ownsRow.lt hown _ ((Option.some.inj hu) ▸ e)).2
    omega
  · rintro e w' ⟨rfl, ⟨h1, h2⟩, h3⟩
    exact ⟨rfl, .inr (by simpa [Lib.byteCells, Lib.strCells] using h1), h2, h3⟩
end Go.Proofs.YtndfhmphlomeiaaGreatDoor
