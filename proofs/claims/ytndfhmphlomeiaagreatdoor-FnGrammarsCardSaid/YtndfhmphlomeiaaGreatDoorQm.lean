/- A grammar that derives as many words as are allowed, or more: l04Many. Condition: the argument is 0 or 1. -/
import Derived.Test.YtndfhmphlomeiaaGreatDoorK2
set_option linter.unusedSimpArgs false
namespace Go.Proofs.YtndfhmphlomeiaaGreatDoor
open Go.RowKit
def ManyAt (B gb : Nat) (a1 : Option Addr) (c1 n1 : Nat) (w W : World) : Prop := ∃ a2 n2 c2, BoxG W gb (.slice a1 n1 c1) (.slice a2 n2 c2) ∧ (∃ x, GraW W B W.heap.size (.agg #[.slice a1 n1 c1, .slice a2 n2 c2]) x ∧ GraN x) ∧ KeepQ B gb gb w W
theorem KeepQ.low2 {B gb C : Nat} {w w' : World} (h : KeepQ B gb gb w w') (h1 : C ≤ B) (h2 : C ≤ gb) : Below C w w' := ⟨h.os, h.tape, h.output, h.size, fun k hk => h.block k (by omega) (by omega) (by omega)⟩
/-- The three stems, behind the store. -/
theorem many_at {w W : World} {B gb E : Nat} {a1 : Option Addr} {c1 : Nat} {A : List AffD} {U Z : List ByteArray} {gu cu gy cy : Nat} (hX : BoxG w gb (.slice a1 A.length c1) (.slice none 0 0)) (hG : GO w B (.slice a1 A.length c1) (.slice none 0 0) ⟨A, []⟩ []) (hn : GraN ⟨A, []⟩) (hb : Below w.heap.size w W) (hU60 : U.length ≤ 60)
    (hU : OwnS w B (.slice (some ⟨gu, 0, none⟩) U.length cu) U) (hW : WordsS 1 U) (hY : OwnS W w.heap.size (.slice (some ⟨gy, 0, none⟩) U.length cy) U) (eZ m n : Nat) (hZ : W.heap[eZ]? = some (.cells (Z.map Value.string).toArray 9 (0, 0))) (hZs : Z.length = m ∧ n ≤ m ∧ m ≤ 60 ∧ ∀ s ∈ Z, s.size ≤ 12) (hEZ : B ≤ eZ)
    (hgb : gb < B) (hE : W.heap[E]? = some (.cells #[.string ⟨#[120, 120]⟩, .slice (some ⟨gu, 0, none⟩) U.length cu, .string ⟨#[121, 121]⟩, .slice (some ⟨gy, 0, none⟩) U.length cy, .string ⟨#[122, 122]⟩, .slice (some ⟨eZ, 0, none⟩) n m] 59 (0, 0))) (hBE : B ≤ E) (hBw : B ≤ w.heap.size) :
    ManyAt B gb a1 c1 A.length w (W.setCell ⟨gb, 1, none⟩ (.slice (some ⟨E, 0, none⟩) 3 3)) := by
  have hs := size_set W ⟨gb, 1, none⟩ (.slice (some ⟨E, 0, none⟩) 3 3)
  have hf : ∀ k, B ≤ k → (W.setCell ⟨gb, 1, none⟩ (.slice (some ⟨E, 0, none⟩) 3 3)).heap[k]? = W.heap[k]? := fun k hk => Below.heap_setCell _ _ _ _ (by show k ≠ gb; omega)
  have hE2 := (hf E hBE).trans hE
  have hZ2 := (hf eZ hEZ).trans hZ
  have hEl := (Array.getElem?_eq_some_iff.1 hE2).1
  have hZl := (Array.getElem?_eq_some_iff.1 hZ2).1
  generalize hW2 : W.setCell ⟨gb, 1, none⟩ (.slice (some ⟨E, 0, none⟩) 3 3) = W2 at *
  have hG2 : GO W2 B (.slice a1 A.length c1) (.slice none 0 0) ⟨A, []⟩ [] := (hG.below hb).frame fun k _ hk => hf k hk
  have hU2 : OwnS W2 B (.slice (some ⟨gu, 0, none⟩) U.length cu) U := own_frame (OwnS.below hU hb) fun k hk => hf k (World.ownsRow.lt hU k hk).1
  have hY2 : OwnS W2 B (.slice (some ⟨gy, 0, none⟩) U.length cy) U := own_monoR (own_frame hY fun k hk => hf k (by have := (World.ownsRow.lt hY k hk).1; omega)) hBw
  have hUm : ∀ s ∈ U, s.size ≤ maxLen := fun s hs => max12 (by have := hW s hs; omega)
  have hZm : ∀ s ∈ Z.take n, s.size ≤ maxLen := fun s hs => max12 (by have := hZs.2.2.2 s (List.mem_of_mem_take hs); omega)
  refine ⟨some ⟨E, 0, none⟩, 3, 3, ?_, ⟨⟨A, [⟨⟨#[120, 120]⟩, U⟩, ⟨⟨#[121, 121]⟩, U⟩, ⟨⟨#[122, 122]⟩, Z.take n⟩]⟩, ⟨_, _, rfl, ⟨own_SlW hG2.aff, hn.af⟩, [.slice (some ⟨gu, 0, none⟩) U.length cu, .slice (some ⟨gy, 0, none⟩) U.length cy, .slice (some ⟨eZ, 0, none⟩) n m], rfl, ?_, ?_⟩, ?_⟩, ?_⟩
  · rw [← hW2]; exact (hX.below hb).set1 _
  · exact ⟨rfl, _, 3, rfl, Nat.le_refl _, by decide, .inr ⟨E, 0, _, rfl, hBE, hEl, hE2, by simp, rfl⟩⟩
  · intro j h1 h2
    match j, h1 with
    | 0, _ => exact ⟨max12 (show (2 : Nat) ≤ 60 by decide), hU2.strs hUm⟩
    | 1, _ => exact ⟨max12 (show (2 : Nat) ≤ 60 by decide), hY2.strs hUm⟩
    | 2, _ =>
      refine ⟨max12 (show (2 : Nat) ≤ 60 by decide), ⟨?_, some ⟨eZ, 0, none⟩, m, ?_, by show (Z.take n).length ≤ m; rw [List.length_take]; omega, max12 hZs.2.2.1, .inr ⟨eZ, 0, _, rfl, hEZ, hZl, hZ2, ?_, ?_⟩⟩, hZm⟩
      · simp
      · show Value.slice (some ⟨eZ, 0, none⟩) n m = .slice (some ⟨eZ, 0, none⟩) (Z.take n).length m
        rw [List.length_take, hZs.1, Nat.min_eq_left hZs.2.1]
      · simp [hZs.1]; omega
      · simp only [List.drop_zero]
        show (Z.map Value.string).take ((Z.take n).length * 1) = (Z.take n).map Value.string
        rw [List.map_take, List.length_take, hZs.1, Nat.min_eq_left hZs.2.1, Nat.mul_one]
  · refine ⟨hn.al, (show (3 : Nat) ≤ 60 by decide), hn.af, fun s hs => ?_⟩
    simp only [List.mem_cons, List.not_mem_nil, or_false] at hs
    rcases hs with rfl | rfl | rfl
    · exact ⟨max12 (show (2 : Nat) ≤ 60 by decide), hU60, hUm⟩
    · exact ⟨max12 (show (2 : Nat) ≤ 60 by decide), hU60, hUm⟩
    · exact ⟨max12 (show (2 : Nat) ≤ 60 by decide), by have := hZs; simp only [List.length_take]; omega, hZm⟩
  · rw [← hW2]; exact (KeepQ.of_below hb hBw).trans KeepQ.of_set
attribute [local irreducible] Calls
set_option maxHeartbeats 16000000 in
set_option maxRecDepth 100000 in
theorem l04Many_any (z : Int) (w : World) (hz : z = 0 ∨ z = 1) :
    Calls Tryz.prog 47 #[.int .i64 z] w fun e w' => ∃ v1 v2 : Value, e = .returned (.agg #[v1, v2]) ∧ ReadG w.heap.size w' v1 v2 ∧ Below w.heap.size w w' := by
  have hb0 : Below w.heap.size w (((w.alloc (.cells #[.slice none 0 0, .slice none 0 0] 27)).alloc (.cells #[.slice none 0 0, .slice none 0 0] 27)).alloc (.cells #[] 9)) := (((Below.refl _ _).alloc (Nat.le_refl _) _).alloc (by simp) _).alloc (by simp; omega) _
  have HB0 := Lib.hid hb0
  have HRes := Lib.hid (heap3_0 w (.cells #[.slice none 0 0, .slice none 0 0] 27) (.cells #[.slice none 0 0, .slice none 0 0] 27) (.cells #[] 9))
  have HX1 : Hid (BoxG (((w.alloc (.cells #[.slice none 0 0, .slice none 0 0] 27)).alloc (.cells #[.slice none 0 0, .slice none 0 0] 27)).alloc (.cells #[] 9)) (w.heap.size + 1) (.slice none 0 0) (.slice none 0 0)) := Lib.hid (heap3_1 w (.cells #[.slice none 0 0, .slice none 0 0] 27) (.cells #[.slice none 0 0, .slice none 0 0] 27) (.cells #[] 9))
  have HG1 := Lib.hid (GO.nil (((w.alloc (.cells #[.slice none 0 0, .slice none 0 0] 27)).alloc (.cells #[.slice none 0 0, .slice none 0 0] 27)).alloc (.cells #[] 9)) (w.heap.size + 2))
  have HU1 : Hid (OwnS (((w.alloc (.cells #[.slice none 0 0, .slice none 0 0] 27)).alloc (.cells #[.slice none 0 0, .slice none 0 0] 27)).alloc (.cells #[] 9)) (w.heap.size + 2) (.slice (some ⟨w.heap.size + 2, 0, none⟩) 0 0) []) := Lib.hid (by have := OwnS.made ((w.alloc (.cells #[.slice none 0 0, .slice none 0 0] 27)).alloc (.cells #[.slice none 0 0, .slice none 0 0] 27)) (w.heap.size + 2) (by simp); simpa using this)
  have HZ := Lib.hid hz
  have hz3 : w.heap.size + 3 ≤ (((w.alloc (.cells #[.slice none 0 0, .slice none 0 0] 27)).alloc (.cells #[.slice none 0 0, .slice none 0 0] 27)).alloc (.cells #[] 9)).heap.size := by simp
  clear hb0 hz
  go_enter Tryz.func47, Tryz.ntmps47
  go_wp2
  generalize (((w.alloc (.cells #[.slice none 0 0, .slice none 0 0] 27)).alloc (.cells #[.slice none 0 0, .slice none 0 0] 27)).alloc (.cells #[] 9)) = w1 at HB0 HRes HX1 HG1 HU1 hz3 ⊢
  go_loopw [4, 5] (fun u i wr => ∃ (k gu cu : Nat) (U : List ByteArray) (A : List AffD) (v1 : Value), u = .slice (some ⟨gu, 0, none⟩) U.length cu ∧ i = .int .i64 (k : Int) ∧ k ≤ 9 ∧ U.length ≤ k ∧ A.length ≤ k ∧ Hid (BoxG wr (w.heap.size + 1) v1 (.slice none 0 0)) ∧ Hid (GO wr (w.heap.size + 2) v1 (.slice none 0 0) ⟨A, []⟩ []) ∧ Hid (GraN ⟨A, []⟩) ∧ Hid (OwnS wr (w.heap.size + 2) (.slice (some ⟨gu, 0, none⟩) U.length cu) U) ∧ Hid (WordsS 1 U) ∧ Hid (v1.ownBlock ≠ some gu) ∧ Hid (KeepQ (w.heap.size + 2) (w.heap.size + 1) (w.heap.size + 1) w1 wr)) (fun _ i _ => 9 - (intOf i).toNat)
  case atStart => exact ⟨0, w.heap.size + 2, 0, [], [], _, rfl, rfl, by omega, by simp, by simp, HX1, HG1, Lib.hid GraN.nil, HU1, Lib.hid (by simp [WordsS]), Lib.hid (by simp [Value.ownBlock]), Lib.hid (KeepQ.refl _ _ _ _)⟩
  case round =>
    clear HX1 HG1 HU1
    obtain ⟨k, gu, cu, U, A, v1, rfl, rfl, hk9, hUk, hAk, HXr, HGr, HLr, HUr, HWr, HNr, HKr⟩ := hrel
    have hszr := HKr.out.size
    by_cases hlt : k < 9
    · have hltI : (k : Int) < 9 := by omega
      obtain ⟨a1, c1, -, -, ev1, -⟩ := HGr.out.shape
      subst ev1
      have ev1 : (GraD.mk A []).affixes.length = A.length := rfl
      rw [ev1] at HGr HXr HNr
      clear ev1
      obtain ⟨s, hs⟩ : ∃ s : ByteArray, s = ⟨#[UInt8.ofNat (97 + k)]⟩ := ⟨_, rfl⟩
      have hs1 : s.size = 1 := by rw [hs]; rfl
      have HSs := Lib.hid hs
      have ha := one_belowQ wr (.cells #[.int .u8 (97 + (k : Int))] 5)
      have HXa := Lib.hid (HXr.out.below ha)
      have HGa := Lib.hid (HGr.out.below ha)
      have HUa := Lib.hid (OwnS.below HUr.out ha)
      have HAa := Lib.hid ha
      have hza : (wr.alloc (.cells #[.int .u8 (97 + (k : Int))] 5)).heap.size = wr.heap.size + 1 := by simp
      have hgu := World.ownsRow.lt HUr.out gu rfl
      obtain ⟨x0, y0⟩ := HXa.out.c0
      clear ha hs
      go_upto_region 7 with fail
      rw [← HSs.out]
      generalize wr.alloc (.cells #[.int .u8 (97 + (k : Int))] 5) = wa at HXa HGa HUa HAa hza x0 y0 ⊢
      have hb := one_belowQ wa (.cells (affV ⟨s, false, ⟨#[]⟩, ⟨#[]⟩, s⟩) 51)
      have HXb := Lib.hid (HXa.out.below hb)
      have HGb := Lib.hid (HGa.out.below hb)
      have HUb := Lib.hid (OwnS.below HUa.out hb)
      have HBb := Lib.hid hb
      have hzb := hb.size
      have hBb : w.heap.size + 2 ≤ (wa.alloc (.cells (affV ⟨s, false, ⟨#[]⟩, ⟨#[]⟩, s⟩) 51)).heap.size := by omega
      clear hb
      have hA9 : A.length ≤ 1000 := by omega
      have hU9 : U.length ≤ 1000 := by omega
      go_wp2_with (first | (at_builtin; refine GO.app_affix rfl (.tmp 19) (.tmp 23) rfl HGb.out hBb hA9 ⟨s, false, ⟨#[]⟩, ⟨#[]⟩, s⟩ _ rfl rfl (by rw [← hza]; exact heap_alloc_new wa _) ?_; intro gn cap w5 hg5 hgr5 hloc5; have hgr5 : (wa.alloc (.cells (affV ⟨s, false, ⟨#[]⟩, ⟨#[]⟩, s⟩) 51)).grownBy w5 (Value.slice a1 A.length c1).ownBlock := hgr5; have hloc5 : (Value.slice a1 A.length c1).ownBlock = some gn ∨ gn = (wa.alloc (.cells (affV ⟨s, false, ⟨#[]⟩, ⟨#[]⟩, s⟩) 51)).heap.size := hloc5; have HX5 := Lib.hid (HXb.out.grown hgr5 (fun q hq => by have := (HGb.out.lt1 hq).1; omega)); obtain ⟨x5, y5⟩ := HX5.out.c0; have HU5 : Hid (OwnS w5 (w.heap.size + 2) (.slice (some ⟨gu, 0, none⟩) U.length cu) U) := Lib.hid (own_frame HUb.out fun q hq => hgr5.block q (World.ownsRow.lt HUb.out q hq).2 (fun e => HNr.out (e.symm.trans hq.symm))); have HU6 : Hid (OwnS (w5.setCell ⟨w.heap.size + 1, 0, none⟩ (Value.slice (some ⟨gn, 0, none⟩) (A.length + 1) cap)) (w.heap.size + 2) (.slice (some ⟨gu, 0, none⟩) U.length cu) U) := Lib.hid (own_frame HU5.out fun q hq => Below.heap_setCell _ _ _ _ (by show q ≠ w.heap.size + 1; have := (World.ownsRow.lt HU5.out q hq).1; omega)); have HX6 := Lib.hid (HX5.out.set0 (Value.slice (some ⟨gn, 0, none⟩) (A.length + 1) cap)); have HG6 := Lib.hid (hg5.set (g := w.heap.size + 1) (i := 0) (u := (Value.slice (some ⟨gn, 0, none⟩) (A.length + 1) cap)) (by omega)); have hcN : gn ≠ gu := hloc5.elim (fun h e => HNr.out (h.trans (congrArg some e))) (fun h e => by omega); have hz5 := hgr5.size; have HK6 := Lib.hid ((((HKr.out.trans (KeepQ.of_below HAa.out (by omega))).trans (KeepQ.of_below HBb.out (by omega))).trans (KeepQ.of_grown hgr5 (fun q hq => (HGb.out.lt1 hq).1) (by omega))).trans (KeepQ.of_set (i := 0) (u := (Value.slice (some ⟨gn, 0, none⟩) (A.length + 1) cap)))); clear hg5 hgr5 hloc5) | (at_builtin; refine app_strQ rfl (.tmp 26) (.tmp 28) rfl (w.heap.size + 2) (.slice (some ⟨gu, 0, none⟩) U.length cu) U (OwnS.below HU6.out (one_belowQ _ (.cells #[.string s] 9))) (by simp only [World.size_alloc, size_set]; omega) hU9 s _ rfl rfl (by have h := heap_alloc_new (w5.setCell ⟨w.heap.size + 1, 0, none⟩ (Value.slice (some ⟨gn, 0, none⟩) (A.length + 1) cap)) (.cells #[.string s] 9); rw [size_set] at h; exact h) ?_; intro g8 cap8 w8 how8 hgr8 hloc8) | fail)
      have HX8 := Lib.hid ((HX6.out.below (one_belowQ _ (.cells #[.string s] 9))).grown hgr8 (fun q hq => by have e : gu = q := Option.some.inj hq; omega))
      have HG8 : Hid (GO w8 (w.heap.size + 2) (Value.slice (some ⟨gn, 0, none⟩) (A.length + 1) cap) (.slice none 0 0) ⟨A ++ [⟨s, false, ⟨#[]⟩, ⟨#[]⟩, s⟩], []⟩ []) := Lib.hid ((HG6.out.below (one_belowQ _ (.cells #[.string s] 9))).grown hgr8 (fun q hq => by
          have e : gu = q := Option.some.inj hq
          subst e
          exact ⟨fun e => hcN (Option.some.inj e), by simp [Value.ownBlock], fun j hj => by simp at hj⟩))
      have hN8 : gn ≠ g8 := by
        rcases hloc8 with h | h
        · rw [show gu = g8 from Option.some.inj h] at hcN; exact hcN
        · have := (HG6.out.lt1 rfl : _ ≤ gn ∧ gn < _).2
          rw [h, World.size_alloc]; omega
      have HN8 : Hid ((Value.slice (some ⟨gn, 0, none⟩) (A.length + 1) cap).ownBlock ≠ some g8) := Lib.hid (fun e => hN8 (Option.some.inj e))
      have hz6 : (w5.setCell ⟨w.heap.size + 1, 0, none⟩ (Value.slice (some ⟨gn, 0, none⟩) (A.length + 1) cap)).heap.size = w5.heap.size := size_set _ _ _
      have HK8 := Lib.hid (HK6.out.trans (((KeepQ.of_below (one_belowQ _ (.cells #[.string s] 9)) (by omega))).trans (KeepQ.of_grown hgr8 (fun q hq => by have e : gu = q := Option.some.inj hq; omega) (by simp only [World.size_alloc]; omega))))
      have HL8 := Lib.hid (HLr.out.affix (a := ⟨s, false, ⟨#[]⟩, ⟨#[]⟩, s⟩) ⟨by show s.size ≤ maxLen; unfold maxLen; omega, (Nat.zero_le _ : 0 ≤ maxLen), (Nat.zero_le _ : 0 ≤ maxLen), by show s.size ≤ maxLen; unfold maxLen; omega⟩ (by show A.length < 60; omega))
      have HW8 : Hid (WordsS 1 (U ++ [s])) := Lib.hid (fun y hy => by
        rcases List.mem_append.1 hy with hy | hy
        · exact HWr.out y hy
        · rw [List.mem_singleton.1 hy]; omega)
      have hlU : (U ++ [s]).length = U.length + 1 := by simp
      have HU8 : Hid (OwnS w8 (w.heap.size + 2) (.slice (some ⟨g8, 0, none⟩) (U ++ [s]).length cap8) (U ++ [s])) := Lib.hid (by rw [hlU]; exact how8)
      have HlU := Lib.hid hlU
      clear hgr8 how8 hloc8 hlU
      go_roundw
      case rel => exact ⟨k + 1, g8, cap8, U ++ [s], A ++ [⟨s, false, ⟨#[]⟩, ⟨#[]⟩, s⟩], _, by rw [HlU.out], by go_num, by omega, by rw [HlU.out]; omega, by simp; omega, HX8, HG8, HL8, HU8, HW8, HN8, HK8⟩
      case measure => simp [intOf]; omega
    · have hltI : ¬ ((k : Int) < 9) := by omega
      have hU60 : U.length ≤ 60 := by omega
      have hgu := World.ownsRow.lt HUr.out gu rfl
      obtain ⟨a1, c1, -, -, ev1, -⟩ := HGr.out.shape
      subst ev1
      have ev1 : (GraD.mk A []).affixes.length = A.length := rfl
      rw [ev1] at HGr HXr HNr
      clear ev1
      have HcU : Hid (∀ j (hj : j < U.length), wr.cell? ⟨gu, 0 + j, none⟩ = some (.string U[j])) := Lib.hid fun j hj => by have := World.ownsRow.cellAt HUr.out j (by omega); rw [Nat.zero_add, this, List.getElem?_map, List.getElem?_eq_getElem hj]; rfl
      rcases HZ.out with rfl | rfl
      all_goals clear HZ
      · have hwz : IntKind.i64.wrap 5 = 5 := by decide
        go_upto_region 9 with fail
        go_cut [4] (fun s4 wz => s4 = (.slice (some ⟨gu, 0, none⟩) U.length cu) ∧ ManyAt (w.heap.size + 2) (w.heap.size + 1) a1 c1 A.length wr wz)
        case first =>
          refine wp_region_held_drew (S := (fun _ => True)) (by kernel_rfl) ?_ (fun hHeld => ?_)
          · trivial
          refine wpAnyH_take (i := 0) (v := ?v1) rfl (by kernel_rfl) (by kernel_rfl) (by kernel_rfl) (fun _ _ _ h => h) (Or.inl ⟨by kernel_rfl, ?hy1⟩) (by assumption) ?_
          case hy1 => (intro w9 hS9; (try dsimp only at hS9); go_simp; (try with_reducible rfl))
          try simp only [Act.put, List.getElem_toArray, List.getElem_cons_succ, List.getElem_cons_zero, List.setIfInBounds_toArray, List.set_cons_zero, List.set_cons_succ]
          refine wpAnyH_take (i := 1) (v := ?v2) rfl (by kernel_rfl) (by kernel_rfl) (by kernel_rfl) (fun _ _ _ h => h) (Or.inl ⟨by kernel_rfl, ?hy2⟩) (by assumption) ?_
          case hy2 => (intro w9 hS9; (try dsimp only at hS9); go_simp; (try with_reducible rfl))
          try simp only [Act.put, List.getElem_toArray, List.getElem_cons_succ, List.getElem_cons_zero, List.setIfInBounds_toArray, List.set_cons_zero, List.set_cons_succ]
          refine wpAnyH_take (i := 3) (v := ?v3) rfl (by kernel_rfl) (by kernel_rfl) (by kernel_rfl) (fun _ _ _ h => h) (Or.inl ⟨by kernel_rfl, ?hy3⟩) (by assumption) ?_
          case hy3 => (intro w9 hS9; (try dsimp only at hS9); go_simp; (try with_reducible rfl))
          try simp only [Act.put, List.getElem_toArray, List.getElem_cons_succ, List.getElem_cons_zero, List.setIfInBounds_toArray, List.set_cons_zero, List.set_cons_succ]
          refine wpAnyH_take (i := 7) (v := ?v4) rfl (by kernel_rfl) (by kernel_rfl) (by kernel_rfl) (fun _ _ _ h => h) (Or.inl ⟨by kernel_rfl, ?hy4⟩) (by assumption) ?_
          case hy4 => (intro w9 hS9; (try dsimp only at hS9); go_simp; (try with_reducible rfl))
          try simp only [Act.put, List.getElem_toArray, List.getElem_cons_succ, List.getElem_cons_zero, List.setIfInBounds_toArray, List.set_cons_zero, List.set_cons_succ]
          refine wpAnyH_take (i := 8) (v := ?v5) rfl (by kernel_rfl) (by kernel_rfl) (by kernel_rfl) (fun _ _ _ h => h) (Or.inl ⟨by kernel_rfl, ?hy5⟩) (by assumption) ?_
          case hy5 => (intro w9 hS9; (try dsimp only at hS9); go_simp; (try with_reducible rfl))
          try simp only [Act.put, List.getElem_toArray, List.getElem_cons_succ, List.getElem_cons_zero, List.setIfInBounds_toArray, List.set_cons_zero, List.set_cons_succ]
          refine wpAnyH_ready (rs := [2, 6]) (by kernel_rfl) (by simp) ?_
          refine AllReadyH.cons rfl (fun K9 hK9 => ?_) (AllReadyH.cons rfl (fun K9 hK9 => ?_) (AllReadyH.nil))
          · rw [if_pos (by rfl)]
            go_simp
            refine hK9.out _ _ (trivial) (fun hHeld2 => ?_)
            clear hK9 K9
            try simp only [Act.put, List.getElem_toArray, List.getElem_cons_succ, List.getElem_cons_zero, List.setIfInBounds_toArray, List.set_cons_zero, List.set_cons_succ]
            have HBc := Lib.hid (id ((Below.refl wr.heap.size wr).drew.trans (one_belowQ wr.drew (.cells #[] 9))))
            have HE : Hid (OwnS (wr.drew.alloc (.cells #[] 9)) wr.heap.size (.slice (some ⟨wr.heap.size, 0, none⟩) 0 0) []) := Lib.hid (by have h := OwnS.made (wr.drew) wr.heap.size (by simp); simpa using h)
            refine wpAnyH_ready (rs := [4, 6]) (by kernel_rfl) (by simp) ?_
            refine AllReadyH.cons rfl (fun K9 hK9 => ?_) (AllReadyH.cons rfl (fun K9 hK9 => ?_) (AllReadyH.nil))
            · refine step_lst ?_ (.tmp 32) (.tmp 33) ?_ wr.heap.size (wr.heap.size) 0 0 [] rfl ?_ HE.out gu 0 U.length cu U rfl ?_ (fun j hj => cell_below (Below.trans (HBc.out) (Below.refl _ _)) (HcU.out j hj)) (by simp; omega) HBc.out.size U.length (by simp) U (by simp) ?_; rfl; rfl; rfl; rfl
              intro gy cy w8 how8 hgr8 _
              have HY := Lib.hid how8
              have HBd := Lib.hid (HBc.out.grown hgr8 HBc.out.size (fun q hq => by have e : wr.heap.size = q := Option.some.inj hq; omega))
              refine hK9.out _ _ (trivial) (fun hHeld3 => ?_)
              clear hK9 K9
              try simp only [Act.put, List.getElem_toArray, List.getElem_cons_succ, List.getElem_cons_zero, List.setIfInBounds_toArray, List.set_cons_zero, List.set_cons_succ]
              clear HBc
              have HBc := HBd
              refine wpAnyH_take (i := 5) (v := ?v6) rfl (by kernel_rfl) (by kernel_rfl) (by kernel_rfl) (fun _ _ _ h => h) (Or.inl ⟨by kernel_rfl, ?hy6⟩) (by assumption) ?_
              case hy6 => (intro w9 hS9; (try dsimp only at hS9); go_simp; (try with_reducible rfl))
              try simp only [Act.put, List.getElem_toArray, List.getElem_cons_succ, List.getElem_cons_zero, List.setIfInBounds_toArray, List.set_cons_zero, List.set_cons_succ]
              refine wpAnyH_ready (rs := [6]) (by kernel_rfl) (by simp) ?_
              refine AllReadyH.cons rfl (fun K9 hK9 => ?_) AllReadyH.nil
              rw [if_pos (by rfl)]
              go_simp
              refine hK9.out _ _ (trivial) (fun hHeld4 => ?_)
              clear hK9 K9
              try simp only [Act.put, List.getElem_toArray, List.getElem_cons_succ, List.getElem_cons_zero, List.setIfInBounds_toArray, List.set_cons_zero, List.set_cons_succ]
              have HZ := Lib.hid (heap_alloc_new w8 (.cells #[.string ⟨#[97]⟩, .string ⟨#[98]⟩, .string ⟨#[99]⟩, .string ⟨#[100]⟩, .string ⟨#[101]⟩, .string ⟨#[102]⟩] 9))
              have HEZ : Hid (wr.heap.size ≤ w8.heap.size) := Lib.hid HBc.out.size
              have HY := Lib.hid (OwnS.below HY.out (one_belowQ w8 (.cells #[.string ⟨#[97]⟩, .string ⟨#[98]⟩, .string ⟨#[99]⟩, .string ⟨#[100]⟩, .string ⟨#[101]⟩, .string ⟨#[102]⟩] 9)))
              have HBc := Lib.hid (HBc.out.trans ((one_belowQ w8 (.cells #[.string ⟨#[97]⟩, .string ⟨#[98]⟩, .string ⟨#[99]⟩, .string ⟨#[100]⟩, .string ⟨#[101]⟩, .string ⟨#[102]⟩] 9)).mono HBc.out.size))
              refine wpAnyH_take (i := 9) (v := ?v7) rfl (by kernel_rfl) (by kernel_rfl) (by kernel_rfl) (fun _ _ _ h => h) (Or.inl ⟨by kernel_rfl, ?hy7⟩) (by assumption) ?_
              case hy7 => (intro w9 hS9; (try dsimp only at hS9); go_simp; (try with_reducible rfl))
              try simp only [Act.put, List.getElem_toArray, List.getElem_cons_succ, List.getElem_cons_zero, List.setIfInBounds_toArray, List.set_cons_zero, List.set_cons_succ]
              refine wpAnyH_take (i := 10) (v := ?v8) rfl (by kernel_rfl) (by kernel_rfl) (by kernel_rfl) (fun _ _ _ h => h) (Or.inl ⟨by kernel_rfl, ?hy8⟩) (by assumption) ?_
              case hy8 => (intro w9 hS9; (try dsimp only at hS9); go_simp; (try with_reducible rfl))
              try simp only [Act.put, List.getElem_toArray, List.getElem_cons_succ, List.getElem_cons_zero, List.setIfInBounds_toArray, List.set_cons_zero, List.set_cons_succ]
              refine wpAnyH_ready (rs := [11]) (by kernel_rfl) (by simp) ?_
              refine AllReadyH.cons rfl (fun K9 hK9 => ?_) AllReadyH.nil
              rw [if_pos (by rfl)]
              go_simp
              refine hK9.out _ _ (trivial) (fun hHeld5 => ?_)
              clear hK9 K9
              try simp only [Act.put, List.getElem_toArray, List.getElem_cons_succ, List.getElem_cons_zero, List.setIfInBounds_toArray, List.set_cons_zero, List.set_cons_succ]
              refine wpAnyH_take (i := 12) (v := ?v9) rfl (by kernel_rfl) (by kernel_rfl) (by kernel_rfl) (fun _ _ _ h => h) (Or.inl ⟨by kernel_rfl, ?hy9⟩) (by assumption) ?_
              case hy9 => (intro w9 hS9; (try dsimp only at hS9); go_simp; (try with_reducible rfl))
              try simp only [Act.put, List.getElem_toArray, List.getElem_cons_succ, List.getElem_cons_zero, List.setIfInBounds_toArray, List.set_cons_zero, List.set_cons_succ]
              have hal := one_belowQ (w8.alloc (.cells #[.string ⟨#[97]⟩, .string ⟨#[98]⟩, .string ⟨#[99]⟩, .string ⟨#[100]⟩, .string ⟨#[101]⟩, .string ⟨#[102]⟩] 9)) (.cells #[.string ⟨#[120, 120]⟩, (.slice (some ⟨gu, 0, none⟩) U.length cu), .string ⟨#[121, 121]⟩, (.slice (some ⟨gy, 0, none⟩) U.length cy), .string ⟨#[122, 122]⟩, (.slice (some ⟨w8.heap.size, 0, none⟩) 5 6)] 59)
              have hzw : w.heap.size + 2 ≤ (w8.alloc (.cells #[.string ⟨#[97]⟩, .string ⟨#[98]⟩, .string ⟨#[99]⟩, .string ⟨#[100]⟩, .string ⟨#[101]⟩, .string ⟨#[102]⟩] 9)).heap.size := Nat.le_trans (by omega) HBc.out.size
              have hbA : Below wr.heap.size wr ((w8.alloc (.cells #[.string ⟨#[97]⟩, .string ⟨#[98]⟩, .string ⟨#[99]⟩, .string ⟨#[100]⟩, .string ⟨#[101]⟩, .string ⟨#[102]⟩] 9)).alloc (.cells #[.string ⟨#[120, 120]⟩, (.slice (some ⟨gu, 0, none⟩) U.length cu), .string ⟨#[121, 121]⟩, (.slice (some ⟨gy, 0, none⟩) U.length cy), .string ⟨#[122, 122]⟩, (.slice (some ⟨w8.heap.size, 0, none⟩) 5 6)] 59)) := HBc.out.trans (hal.mono HBc.out.size)
              obtain ⟨x1, y1⟩ := (HXr.out.below hbA).c1
              refine wpAnyH_ready (rs := [13]) (by kernel_rfl) (by simp) ?_
              refine AllReadyH.cons rfl (fun K9 hK9 => ?_) AllReadyH.nil
              rw [if_pos (by rfl)]
              go_simp
              refine hK9.out _ _ (trivial) (fun hHeld6 => ?_)
              clear hK9 K9
              try simp only [Act.put, List.getElem_toArray, List.getElem_cons_succ, List.getElem_cons_zero, List.setIfInBounds_toArray, List.set_cons_zero, List.set_cons_succ]
              refine wpAnyH_done (by kernel_rfl) ?_ _
              go_wp2_with fail
              go_meet
              refine ⟨rfl, many_at (w := wr) (W := (w8.alloc (.cells #[.string ⟨#[97]⟩, .string ⟨#[98]⟩, .string ⟨#[99]⟩, .string ⟨#[100]⟩, .string ⟨#[101]⟩, .string ⟨#[102]⟩] 9)).alloc (.cells #[.string ⟨#[120, 120]⟩, (.slice (some ⟨gu, 0, none⟩) U.length cu), .string ⟨#[121, 121]⟩, (.slice (some ⟨gy, 0, none⟩) U.length cy), .string ⟨#[122, 122]⟩, (.slice (some ⟨w8.heap.size, 0, none⟩) 5 6)] 59)) (E := (w8.heap.size + 1)) (Z := [⟨#[97]⟩, ⟨#[98]⟩, ⟨#[99]⟩, ⟨#[100]⟩, ⟨#[101]⟩, ⟨#[102]⟩]) HXr.out HGr.out HLr.out hbA hU60 HUr.out HWr.out (OwnS.below HY.out hal) (w8.heap.size) 6 5 ?_ (by decide) ?_ (by omega) ?_ ?_ (by omega)⟩
              · exact (hal.block _ (Array.getElem?_eq_some_iff.1 HZ.out).1).trans HZ.out
              · exact Nat.le_trans (by omega) HEZ.out
              · exact heap_alloc2_new w8 _ _
              · have := HBc.out.size; (try simp only [World.size_alloc] at this); omega
            · rw [if_pos (by rfl)]
              go_simp
              refine hK9.out _ _ (trivial) (fun hHeld3 => ?_)
              clear hK9 K9
              try simp only [Act.put, List.getElem_toArray, List.getElem_cons_succ, List.getElem_cons_zero, List.setIfInBounds_toArray, List.set_cons_zero, List.set_cons_succ]
              have HE := Lib.hid (OwnS.below HE.out (one_belowQ (wr.drew.alloc (.cells #[] 9)) (.cells #[.string ⟨#[97]⟩, .string ⟨#[98]⟩, .string ⟨#[99]⟩, .string ⟨#[100]⟩, .string ⟨#[101]⟩, .string ⟨#[102]⟩] 9)))
              have HBc := Lib.hid (HBc.out.trans ((one_belowQ ((wr.drew.alloc (.cells #[] 9))) (.cells #[.string ⟨#[97]⟩, .string ⟨#[98]⟩, .string ⟨#[99]⟩, .string ⟨#[100]⟩, .string ⟨#[101]⟩, .string ⟨#[102]⟩] 9)).mono HBc.out.size))
              have HZ : Hid (((wr.drew.alloc (.cells #[] 9)).alloc (.cells #[.string ⟨#[97]⟩, .string ⟨#[98]⟩, .string ⟨#[99]⟩, .string ⟨#[100]⟩, .string ⟨#[101]⟩, .string ⟨#[102]⟩] 9)).heap[wr.heap.size + 1]? = some (.cells #[.string ⟨#[97]⟩, .string ⟨#[98]⟩, .string ⟨#[99]⟩, .string ⟨#[100]⟩, .string ⟨#[101]⟩, .string ⟨#[102]⟩] 9)) := Lib.hid (by have h := heap_alloc2_new wr.drew (.cells #[] 9) (.cells #[.string ⟨#[97]⟩, .string ⟨#[98]⟩, .string ⟨#[99]⟩, .string ⟨#[100]⟩, .string ⟨#[101]⟩, .string ⟨#[102]⟩] 9); exact h)
              have HEZ : Hid (wr.heap.size ≤ wr.heap.size + 1) := Lib.hid (by omega)
              refine wpAnyH_take (i := 9) (v := ?v10) rfl (by kernel_rfl) (by kernel_rfl) (by kernel_rfl) (fun _ _ _ h => h) (Or.inl ⟨by kernel_rfl, ?hy10⟩) (by assumption) ?_
              case hy10 => (intro w9 hS9; (try dsimp only at hS9); go_simp; (try with_reducible rfl))
              try simp only [Act.put, List.getElem_toArray, List.getElem_cons_succ, List.getElem_cons_zero, List.setIfInBounds_toArray, List.set_cons_zero, List.set_cons_succ]
              refine wpAnyH_take (i := 10) (v := ?v11) rfl (by kernel_rfl) (by kernel_rfl) (by kernel_rfl) (fun _ _ _ h => h) (Or.inl ⟨by kernel_rfl, ?hy11⟩) (by assumption) ?_
              case hy11 => (intro w9 hS9; (try dsimp only at hS9); go_simp; (try with_reducible rfl))
              try simp only [Act.put, List.getElem_toArray, List.getElem_cons_succ, List.getElem_cons_zero, List.setIfInBounds_toArray, List.set_cons_zero, List.set_cons_succ]
              refine wpAnyH_ready (rs := [4]) (by kernel_rfl) (by simp) ?_
              refine AllReadyH.cons rfl (fun K9 hK9 => ?_) AllReadyH.nil
              refine step_lst ?_ (.tmp 32) (.tmp 33) ?_ wr.heap.size (wr.heap.size) 0 0 [] rfl ?_ HE.out gu 0 U.length cu U rfl ?_ (fun j hj => cell_below (Below.trans (HBc.out) (Below.refl _ _)) (HcU.out j hj)) (by simp; omega) HBc.out.size U.length (by simp) U (by simp) ?_; rfl; rfl; rfl; rfl
              intro gy cy w8 how8 hgr8 _
              have HY := Lib.hid how8
              have HBd := Lib.hid (HBc.out.grown hgr8 HBc.out.size (fun q hq => by have e : wr.heap.size = q := Option.some.inj hq; omega))
              have HZ := Lib.hid ((hgr8.block _ (Array.getElem?_eq_some_iff.1 HZ.out).1 (by simp)).trans HZ.out)
              clear HBc
              have HBc := HBd
              refine hK9.out _ _ (trivial) (fun hHeld4 => ?_)
              clear hK9 K9
              try simp only [Act.put, List.getElem_toArray, List.getElem_cons_succ, List.getElem_cons_zero, List.setIfInBounds_toArray, List.set_cons_zero, List.set_cons_succ]
              refine wpAnyH_take (i := 5) (v := ?v12) rfl (by kernel_rfl) (by kernel_rfl) (by kernel_rfl) (fun _ _ _ h => h) (Or.inl ⟨by kernel_rfl, ?hy12⟩) (by assumption) ?_
              case hy12 => (intro w9 hS9; (try dsimp only at hS9); go_simp; (try with_reducible rfl))
              try simp only [Act.put, List.getElem_toArray, List.getElem_cons_succ, List.getElem_cons_zero, List.setIfInBounds_toArray, List.set_cons_zero, List.set_cons_succ]
              refine wpAnyH_ready (rs := [11]) (by kernel_rfl) (by simp) ?_
              refine AllReadyH.cons rfl (fun K9 hK9 => ?_) AllReadyH.nil
              rw [if_pos (by rfl)]
              go_simp
              refine hK9.out _ _ (trivial) (fun hHeld5 => ?_)
              clear hK9 K9
              try simp only [Act.put, List.getElem_toArray, List.getElem_cons_succ, List.getElem_cons_zero, List.setIfInBounds_toArray, List.set_cons_zero, List.set_cons_succ]
              refine wpAnyH_take (i := 12) (v := ?v13) rfl (by kernel_rfl) (by kernel_rfl) (by kernel_rfl) (fun _ _ _ h => h) (Or.inl ⟨by kernel_rfl, ?hy13⟩) (by assumption) ?_
              case hy13 => (intro w9 hS9; (try dsimp only at hS9); go_simp; (try with_reducible rfl))
              try simp only [Act.put, List.getElem_toArray, List.getElem_cons_succ, List.getElem_cons_zero, List.setIfInBounds_toArray, List.set_cons_zero, List.set_cons_succ]
              have hal := one_belowQ (w8) (.cells #[.string ⟨#[120, 120]⟩, (.slice (some ⟨gu, 0, none⟩) U.length cu), .string ⟨#[121, 121]⟩, (.slice (some ⟨gy, 0, none⟩) U.length cy), .string ⟨#[122, 122]⟩, (.slice (some ⟨wr.heap.size + 1, 0, none⟩) 5 6)] 59)
              have hzw : w.heap.size + 2 ≤ (w8).heap.size := Nat.le_trans (by omega) HBc.out.size
              have hbA : Below wr.heap.size wr ((w8).alloc (.cells #[.string ⟨#[120, 120]⟩, (.slice (some ⟨gu, 0, none⟩) U.length cu), .string ⟨#[121, 121]⟩, (.slice (some ⟨gy, 0, none⟩) U.length cy), .string ⟨#[122, 122]⟩, (.slice (some ⟨wr.heap.size + 1, 0, none⟩) 5 6)] 59)) := HBc.out.trans (hal.mono HBc.out.size)
              obtain ⟨x1, y1⟩ := (HXr.out.below hbA).c1
              refine wpAnyH_ready (rs := [13]) (by kernel_rfl) (by simp) ?_
              refine AllReadyH.cons rfl (fun K9 hK9 => ?_) AllReadyH.nil
              rw [if_pos (by rfl)]
              go_simp
              refine hK9.out _ _ (trivial) (fun hHeld6 => ?_)
              clear hK9 K9
              try simp only [Act.put, List.getElem_toArray, List.getElem_cons_succ, List.getElem_cons_zero, List.setIfInBounds_toArray, List.set_cons_zero, List.set_cons_succ]
              refine wpAnyH_done (by kernel_rfl) ?_ _
              go_wp2_with fail
              go_meet
              refine ⟨rfl, many_at (w := wr) (W := (w8).alloc (.cells #[.string ⟨#[120, 120]⟩, (.slice (some ⟨gu, 0, none⟩) U.length cu), .string ⟨#[121, 121]⟩, (.slice (some ⟨gy, 0, none⟩) U.length cy), .string ⟨#[122, 122]⟩, (.slice (some ⟨wr.heap.size + 1, 0, none⟩) 5 6)] 59)) (E := w8.heap.size) (Z := [⟨#[97]⟩, ⟨#[98]⟩, ⟨#[99]⟩, ⟨#[100]⟩, ⟨#[101]⟩, ⟨#[102]⟩]) HXr.out HGr.out HLr.out hbA hU60 HUr.out HWr.out (OwnS.below HY.out hal) (wr.heap.size + 1) 6 5 ?_ (by decide) ?_ (by omega) ?_ ?_ (by omega)⟩
              · exact (hal.block _ (Array.getElem?_eq_some_iff.1 HZ.out).1).trans HZ.out
              · exact Nat.le_trans (by omega) HEZ.out
              · exact heap_alloc_new w8 _
              · have := HBc.out.size; (try simp only [World.size_alloc] at this); omega
          · rw [if_pos (by rfl)]
            go_simp
            refine hK9.out _ _ (trivial) (fun hHeld2 => ?_)
            clear hK9 K9
            try simp only [Act.put, List.getElem_toArray, List.getElem_cons_succ, List.getElem_cons_zero, List.setIfInBounds_toArray, List.set_cons_zero, List.set_cons_succ]
            have HBc := Lib.hid (id ((Below.refl wr.heap.size wr).drew.trans (one_belowQ wr.drew (.cells #[.string ⟨#[97]⟩, .string ⟨#[98]⟩, .string ⟨#[99]⟩, .string ⟨#[100]⟩, .string ⟨#[101]⟩, .string ⟨#[102]⟩] 9))))
            have HZ : Hid ((wr.drew.alloc (.cells #[.string ⟨#[97]⟩, .string ⟨#[98]⟩, .string ⟨#[99]⟩, .string ⟨#[100]⟩, .string ⟨#[101]⟩, .string ⟨#[102]⟩] 9)).heap[wr.heap.size]? = some (.cells #[.string ⟨#[97]⟩, .string ⟨#[98]⟩, .string ⟨#[99]⟩, .string ⟨#[100]⟩, .string ⟨#[101]⟩, .string ⟨#[102]⟩] 9)) := Lib.hid (heap_alloc_new wr.drew (.cells #[.string ⟨#[97]⟩, .string ⟨#[98]⟩, .string ⟨#[99]⟩, .string ⟨#[100]⟩, .string ⟨#[101]⟩, .string ⟨#[102]⟩] 9))
            refine wpAnyH_take (i := 9) (v := ?v14) rfl (by kernel_rfl) (by kernel_rfl) (by kernel_rfl) (fun _ _ _ h => h) (Or.inl ⟨by kernel_rfl, ?hy14⟩) (by assumption) ?_
            case hy14 => (intro w9 hS9; (try dsimp only at hS9); go_simp; (try with_reducible rfl))
            try simp only [Act.put, List.getElem_toArray, List.getElem_cons_succ, List.getElem_cons_zero, List.setIfInBounds_toArray, List.set_cons_zero, List.set_cons_succ]
            refine wpAnyH_take (i := 10) (v := ?v15) rfl (by kernel_rfl) (by kernel_rfl) (by kernel_rfl) (fun _ _ _ h => h) (Or.inl ⟨by kernel_rfl, ?hy15⟩) (by assumption) ?_
            case hy15 => (intro w9 hS9; (try dsimp only at hS9); go_simp; (try with_reducible rfl))
            try simp only [Act.put, List.getElem_toArray, List.getElem_cons_succ, List.getElem_cons_zero, List.setIfInBounds_toArray, List.set_cons_zero, List.set_cons_succ]
            refine wpAnyH_ready (rs := [2]) (by kernel_rfl) (by simp) ?_
            refine AllReadyH.cons rfl (fun K9 hK9 => ?_) AllReadyH.nil
            rw [if_pos (by rfl)]
            go_simp
            refine hK9.out _ _ (trivial) (fun hHeld3 => ?_)
            clear hK9 K9
            try simp only [Act.put, List.getElem_toArray, List.getElem_cons_succ, List.getElem_cons_zero, List.setIfInBounds_toArray, List.set_cons_zero, List.set_cons_succ]
            have HZ := Lib.hid (((one_belowQ (wr.drew.alloc (.cells #[.string ⟨#[97]⟩, .string ⟨#[98]⟩, .string ⟨#[99]⟩, .string ⟨#[100]⟩, .string ⟨#[101]⟩, .string ⟨#[102]⟩] 9)) (.cells #[] 9)).block _ (Array.getElem?_eq_some_iff.1 HZ.out).1).trans HZ.out)
            have HE : Hid (OwnS ((wr.drew.alloc (.cells #[.string ⟨#[97]⟩, .string ⟨#[98]⟩, .string ⟨#[99]⟩, .string ⟨#[100]⟩, .string ⟨#[101]⟩, .string ⟨#[102]⟩] 9)).alloc (.cells #[] 9)) wr.heap.size (.slice (some ⟨wr.heap.size + 1, 0, none⟩) 0 0) []) := Lib.hid (by have h := OwnS.made ((wr.drew.alloc (.cells #[.string ⟨#[97]⟩, .string ⟨#[98]⟩, .string ⟨#[99]⟩, .string ⟨#[100]⟩, .string ⟨#[101]⟩, .string ⟨#[102]⟩] 9))) wr.heap.size (by simp); simpa using h)
            have HBc := Lib.hid (HBc.out.trans ((one_belowQ ((wr.drew.alloc (.cells #[.string ⟨#[97]⟩, .string ⟨#[98]⟩, .string ⟨#[99]⟩, .string ⟨#[100]⟩, .string ⟨#[101]⟩, .string ⟨#[102]⟩] 9))) (.cells #[] 9)).mono HBc.out.size))
            refine wpAnyH_ready (rs := [4]) (by kernel_rfl) (by simp) ?_
            refine AllReadyH.cons rfl (fun K9 hK9 => ?_) AllReadyH.nil
            refine step_lst ?_ (.tmp 32) (.tmp 33) ?_ wr.heap.size (wr.heap.size + 1) 0 0 [] rfl ?_ HE.out gu 0 U.length cu U rfl ?_ (fun j hj => cell_below (Below.trans (HBc.out) (Below.refl _ _)) (HcU.out j hj)) (by simp; omega) HBc.out.size U.length (by simp) U (by simp) ?_; rfl; rfl; rfl; rfl
            intro gy cy w8 how8 hgr8 _
            have HY := Lib.hid how8
            have HBd := Lib.hid (HBc.out.grown hgr8 HBc.out.size (fun q hq => by have e : wr.heap.size + 1 = q := Option.some.inj hq; omega))
            have HZ := Lib.hid ((hgr8.block _ (Array.getElem?_eq_some_iff.1 HZ.out).1 (by simp)).trans HZ.out)
            have HEZ : Hid (wr.heap.size ≤ wr.heap.size) := Lib.hid (Nat.le_refl _)
            clear HBc
            have HBc := HBd
            refine hK9.out _ _ (trivial) (fun hHeld4 => ?_)
            clear hK9 K9
            try simp only [Act.put, List.getElem_toArray, List.getElem_cons_succ, List.getElem_cons_zero, List.setIfInBounds_toArray, List.set_cons_zero, List.set_cons_succ]
            refine wpAnyH_take (i := 5) (v := ?v16) rfl (by kernel_rfl) (by kernel_rfl) (by kernel_rfl) (fun _ _ _ h => h) (Or.inl ⟨by kernel_rfl, ?hy16⟩) (by assumption) ?_
            case hy16 => (intro w9 hS9; (try dsimp only at hS9); go_simp; (try with_reducible rfl))
            try simp only [Act.put, List.getElem_toArray, List.getElem_cons_succ, List.getElem_cons_zero, List.setIfInBounds_toArray, List.set_cons_zero, List.set_cons_succ]
            refine wpAnyH_ready (rs := [11]) (by kernel_rfl) (by simp) ?_
            refine AllReadyH.cons rfl (fun K9 hK9 => ?_) AllReadyH.nil
            rw [if_pos (by rfl)]
            go_simp
            refine hK9.out _ _ (trivial) (fun hHeld5 => ?_)
            clear hK9 K9
            try simp only [Act.put, List.getElem_toArray, List.getElem_cons_succ, List.getElem_cons_zero, List.setIfInBounds_toArray, List.set_cons_zero, List.set_cons_succ]
            refine wpAnyH_take (i := 12) (v := ?v17) rfl (by kernel_rfl) (by kernel_rfl) (by kernel_rfl) (fun _ _ _ h => h) (Or.inl ⟨by kernel_rfl, ?hy17⟩) (by assumption) ?_
            case hy17 => (intro w9 hS9; (try dsimp only at hS9); go_simp; (try with_reducible rfl))
            try simp only [Act.put, List.getElem_toArray, List.getElem_cons_succ, List.getElem_cons_zero, List.setIfInBounds_toArray, List.set_cons_zero, List.set_cons_succ]
            have hal := one_belowQ (w8) (.cells #[.string ⟨#[120, 120]⟩, (.slice (some ⟨gu, 0, none⟩) U.length cu), .string ⟨#[121, 121]⟩, (.slice (some ⟨gy, 0, none⟩) U.length cy), .string ⟨#[122, 122]⟩, (.slice (some ⟨wr.heap.size, 0, none⟩) 5 6)] 59)
            have hzw : w.heap.size + 2 ≤ (w8).heap.size := Nat.le_trans (by omega) HBc.out.size
            have hbA : Below wr.heap.size wr ((w8).alloc (.cells #[.string ⟨#[120, 120]⟩, (.slice (some ⟨gu, 0, none⟩) U.length cu), .string ⟨#[121, 121]⟩, (.slice (some ⟨gy, 0, none⟩) U.length cy), .string ⟨#[122, 122]⟩, (.slice (some ⟨wr.heap.size, 0, none⟩) 5 6)] 59)) := HBc.out.trans (hal.mono HBc.out.size)
            obtain ⟨x1, y1⟩ := (HXr.out.below hbA).c1
            refine wpAnyH_ready (rs := [13]) (by kernel_rfl) (by simp) ?_
            refine AllReadyH.cons rfl (fun K9 hK9 => ?_) AllReadyH.nil
            rw [if_pos (by rfl)]
            go_simp
            refine hK9.out _ _ (trivial) (fun hHeld6 => ?_)
            clear hK9 K9
            try simp only [Act.put, List.getElem_toArray, List.getElem_cons_succ, List.getElem_cons_zero, List.setIfInBounds_toArray, List.set_cons_zero, List.set_cons_succ]
            refine wpAnyH_done (by kernel_rfl) ?_ _
            go_wp2_with fail
            go_meet
            refine ⟨rfl, many_at (w := wr) (W := (w8).alloc (.cells #[.string ⟨#[120, 120]⟩, (.slice (some ⟨gu, 0, none⟩) U.length cu), .string ⟨#[121, 121]⟩, (.slice (some ⟨gy, 0, none⟩) U.length cy), .string ⟨#[122, 122]⟩, (.slice (some ⟨wr.heap.size, 0, none⟩) 5 6)] 59)) (E := w8.heap.size) (Z := [⟨#[97]⟩, ⟨#[98]⟩, ⟨#[99]⟩, ⟨#[100]⟩, ⟨#[101]⟩, ⟨#[102]⟩]) HXr.out HGr.out HLr.out hbA hU60 HUr.out HWr.out (OwnS.below HY.out hal) (wr.heap.size) 6 5 ?_ (by decide) ?_ (by omega) ?_ ?_ (by omega)⟩
            · exact (hal.block _ (Array.getElem?_eq_some_iff.1 HZ.out).1).trans HZ.out
            · exact Nat.le_trans (by omega) HEZ.out
            · exact heap_alloc_new w8 _
            · have := HBc.out.size; (try simp only [World.size_alloc] at this); omega
        case rest =>
          obtain ⟨rfl, a2, n2, c2, hx, ⟨x, hgx, hnx⟩, hkk⟩ := hcut
          have HXc : Hid (BoxG wc (w.heap.size + 1) (.slice a1 A.length c1) (.slice a2 n2 c2)) := Lib.hid hx
          have HGx := Lib.hid hgx
          have HNx := Lib.hid hnx
          have HKc := Lib.hid (HKr.out.trans hkk)
          clear hx hgx hnx hkk
          have HR := Lib.hid ((HKc.out.block w.heap.size (by omega) (by omega) (by omega)).trans HRes.out)
          obtain ⟨x0, y0⟩ := HXc.out.c0
          obtain ⟨x1, y1⟩ := HXc.out.c1
          obtain ⟨d0, q0⟩ := src_cell (i := 0) (v := .slice none 0 0) HR.out rfl
          obtain ⟨d1, q1⟩ := src_cell (i := 1) (v := .slice none 0 0) HR.out rfl
          go_wp2
          have st := store2 HR.out (.slice a1 A.length c1) (.slice a2 n2 c2)
          refine bodyPost_ret (v := .agg #[.slice a1 A.length c1, .slice a2 n2 c2]) (results_cell_row (p := 2) (ty := 27) rfl _ _ w.heap.size _ _ _ _ rfl st.1 Tryz.underlying27 rfl infoGra) rfl ⟨_, _, rfl, ⟨x, ?_, HNx.out⟩, ?_⟩
          · exact (HGx.out.kept st.2.1 (.inr (by omega))).mono (by omega) (by rw [st.2.2]; exact Nat.le_refl _)
          · exact (HB0.out.trans (HKc.out.low2 (by omega) (by omega))).trans (st.2.1.below (Nat.le_refl _) (by have := HKc.out.size; omega))
      · have hwz : IntKind.i64.wrap 6 = 6 := by decide
        go_upto_region 9 with fail
        go_cut [4] (fun s4 wz => s4 = (.slice (some ⟨gu, 0, none⟩) U.length cu) ∧ ManyAt (w.heap.size + 2) (w.heap.size + 1) a1 c1 A.length wr wz)
        case first =>
          refine wp_region_held_drew (S := (fun _ => True)) (by kernel_rfl) ?_ (fun hHeld => ?_)
          · trivial
          refine wpAnyH_take (i := 0) (v := ?v18) rfl (by kernel_rfl) (by kernel_rfl) (by kernel_rfl) (fun _ _ _ h => h) (Or.inl ⟨by kernel_rfl, ?hy18⟩) (by assumption) ?_
          case hy18 => (intro w9 hS9; (try dsimp only at hS9); go_simp; (try with_reducible rfl))
          try simp only [Act.put, List.getElem_toArray, List.getElem_cons_succ, List.getElem_cons_zero, List.setIfInBounds_toArray, List.set_cons_zero, List.set_cons_succ]
          refine wpAnyH_take (i := 1) (v := ?v19) rfl (by kernel_rfl) (by kernel_rfl) (by kernel_rfl) (fun _ _ _ h => h) (Or.inl ⟨by kernel_rfl, ?hy19⟩) (by assumption) ?_
          case hy19 => (intro w9 hS9; (try dsimp only at hS9); go_simp; (try with_reducible rfl))
          try simp only [Act.put, List.getElem_toArray, List.getElem_cons_succ, List.getElem_cons_zero, List.setIfInBounds_toArray, List.set_cons_zero, List.set_cons_succ]
          refine wpAnyH_take (i := 3) (v := ?v20) rfl (by kernel_rfl) (by kernel_rfl) (by kernel_rfl) (fun _ _ _ h => h) (Or.inl ⟨by kernel_rfl, ?hy20⟩) (by assumption) ?_
          case hy20 => (intro w9 hS9; (try dsimp only at hS9); go_simp; (try with_reducible rfl))
          try simp only [Act.put, List.getElem_toArray, List.getElem_cons_succ, List.getElem_cons_zero, List.setIfInBounds_toArray, List.set_cons_zero, List.set_cons_succ]
          refine wpAnyH_take (i := 7) (v := ?v21) rfl (by kernel_rfl) (by kernel_rfl) (by kernel_rfl) (fun _ _ _ h => h) (Or.inl ⟨by kernel_rfl, ?hy21⟩) (by assumption) ?_
          case hy21 => (intro w9 hS9; (try dsimp only at hS9); go_simp; (try with_reducible rfl))
          try simp only [Act.put, List.getElem_toArray, List.getElem_cons_succ, List.getElem_cons_zero, List.setIfInBounds_toArray, List.set_cons_zero, List.set_cons_succ]
          refine wpAnyH_take (i := 8) (v := ?v22) rfl (by kernel_rfl) (by kernel_rfl) (by kernel_rfl) (fun _ _ _ h => h) (Or.inl ⟨by kernel_rfl, ?hy22⟩) (by assumption) ?_
          case hy22 => (intro w9 hS9; (try dsimp only at hS9); go_simp; (try with_reducible rfl))
          try simp only [Act.put, List.getElem_toArray, List.getElem_cons_succ, List.getElem_cons_zero, List.setIfInBounds_toArray, List.set_cons_zero, List.set_cons_succ]
          refine wpAnyH_ready (rs := [2, 6]) (by kernel_rfl) (by simp) ?_
          refine AllReadyH.cons rfl (fun K9 hK9 => ?_) (AllReadyH.cons rfl (fun K9 hK9 => ?_) (AllReadyH.nil))
          · rw [if_pos (by rfl)]
            go_simp
            refine hK9.out _ _ (trivial) (fun hHeld2 => ?_)
            clear hK9 K9
            try simp only [Act.put, List.getElem_toArray, List.getElem_cons_succ, List.getElem_cons_zero, List.setIfInBounds_toArray, List.set_cons_zero, List.set_cons_succ]
            have HBc := Lib.hid (id ((Below.refl wr.heap.size wr).drew.trans (one_belowQ wr.drew (.cells #[] 9))))
            have HE : Hid (OwnS (wr.drew.alloc (.cells #[] 9)) wr.heap.size (.slice (some ⟨wr.heap.size, 0, none⟩) 0 0) []) := Lib.hid (by have h := OwnS.made (wr.drew) wr.heap.size (by simp); simpa using h)
            refine wpAnyH_ready (rs := [4, 6]) (by kernel_rfl) (by simp) ?_
            refine AllReadyH.cons rfl (fun K9 hK9 => ?_) (AllReadyH.cons rfl (fun K9 hK9 => ?_) (AllReadyH.nil))
            · refine step_lst ?_ (.tmp 32) (.tmp 33) ?_ wr.heap.size (wr.heap.size) 0 0 [] rfl ?_ HE.out gu 0 U.length cu U rfl ?_ (fun j hj => cell_below (Below.trans (HBc.out) (Below.refl _ _)) (HcU.out j hj)) (by simp; omega) HBc.out.size U.length (by simp) U (by simp) ?_; rfl; rfl; rfl; rfl
              intro gy cy w8 how8 hgr8 _
              have HY := Lib.hid how8
              have HBd := Lib.hid (HBc.out.grown hgr8 HBc.out.size (fun q hq => by have e : wr.heap.size = q := Option.some.inj hq; omega))
              refine hK9.out _ _ (trivial) (fun hHeld3 => ?_)
              clear hK9 K9
              try simp only [Act.put, List.getElem_toArray, List.getElem_cons_succ, List.getElem_cons_zero, List.setIfInBounds_toArray, List.set_cons_zero, List.set_cons_succ]
              clear HBc
              have HBc := HBd
              refine wpAnyH_take (i := 5) (v := ?v23) rfl (by kernel_rfl) (by kernel_rfl) (by kernel_rfl) (fun _ _ _ h => h) (Or.inl ⟨by kernel_rfl, ?hy23⟩) (by assumption) ?_
              case hy23 => (intro w9 hS9; (try dsimp only at hS9); go_simp; (try with_reducible rfl))
              try simp only [Act.put, List.getElem_toArray, List.getElem_cons_succ, List.getElem_cons_zero, List.setIfInBounds_toArray, List.set_cons_zero, List.set_cons_succ]
              refine wpAnyH_ready (rs := [6]) (by kernel_rfl) (by simp) ?_
              refine AllReadyH.cons rfl (fun K9 hK9 => ?_) AllReadyH.nil
              rw [if_pos (by rfl)]
              go_simp
              refine hK9.out _ _ (trivial) (fun hHeld4 => ?_)
              clear hK9 K9
              try simp only [Act.put, List.getElem_toArray, List.getElem_cons_succ, List.getElem_cons_zero, List.setIfInBounds_toArray, List.set_cons_zero, List.set_cons_succ]
              have HZ := Lib.hid (heap_alloc_new w8 (.cells #[.string ⟨#[97]⟩, .string ⟨#[98]⟩, .string ⟨#[99]⟩, .string ⟨#[100]⟩, .string ⟨#[101]⟩, .string ⟨#[102]⟩] 9))
              have HEZ : Hid (wr.heap.size ≤ w8.heap.size) := Lib.hid HBc.out.size
              have HY := Lib.hid (OwnS.below HY.out (one_belowQ w8 (.cells #[.string ⟨#[97]⟩, .string ⟨#[98]⟩, .string ⟨#[99]⟩, .string ⟨#[100]⟩, .string ⟨#[101]⟩, .string ⟨#[102]⟩] 9)))
              have HBc := Lib.hid (HBc.out.trans ((one_belowQ w8 (.cells #[.string ⟨#[97]⟩, .string ⟨#[98]⟩, .string ⟨#[99]⟩, .string ⟨#[100]⟩, .string ⟨#[101]⟩, .string ⟨#[102]⟩] 9)).mono HBc.out.size))
              refine wpAnyH_take (i := 9) (v := ?v24) rfl (by kernel_rfl) (by kernel_rfl) (by kernel_rfl) (fun _ _ _ h => h) (Or.inl ⟨by kernel_rfl, ?hy24⟩) (by assumption) ?_
              case hy24 => (intro w9 hS9; (try dsimp only at hS9); go_simp; (try with_reducible rfl))
              try simp only [Act.put, List.getElem_toArray, List.getElem_cons_succ, List.getElem_cons_zero, List.setIfInBounds_toArray, List.set_cons_zero, List.set_cons_succ]
              refine wpAnyH_take (i := 10) (v := ?v25) rfl (by kernel_rfl) (by kernel_rfl) (by kernel_rfl) (fun _ _ _ h => h) (Or.inl ⟨by kernel_rfl, ?hy25⟩) (by assumption) ?_
              case hy25 => (intro w9 hS9; (try dsimp only at hS9); go_simp; (try with_reducible rfl))
              try simp only [Act.put, List.getElem_toArray, List.getElem_cons_succ, List.getElem_cons_zero, List.setIfInBounds_toArray, List.set_cons_zero, List.set_cons_succ]
              refine wpAnyH_ready (rs := [11]) (by kernel_rfl) (by simp) ?_
              refine AllReadyH.cons rfl (fun K9 hK9 => ?_) AllReadyH.nil
              rw [if_pos (by rfl)]
              go_simp
              refine hK9.out _ _ (trivial) (fun hHeld5 => ?_)
              clear hK9 K9
              try simp only [Act.put, List.getElem_toArray, List.getElem_cons_succ, List.getElem_cons_zero, List.setIfInBounds_toArray, List.set_cons_zero, List.set_cons_succ]
              refine wpAnyH_take (i := 12) (v := ?v26) rfl (by kernel_rfl) (by kernel_rfl) (by kernel_rfl) (fun _ _ _ h => h) (Or.inl ⟨by kernel_rfl, ?hy26⟩) (by assumption) ?_
              case hy26 => (intro w9 hS9; (try dsimp only at hS9); go_simp; (try with_reducible rfl))
              try simp only [Act.put, List.getElem_toArray, List.getElem_cons_succ, List.getElem_cons_zero, List.setIfInBounds_toArray, List.set_cons_zero, List.set_cons_succ]
              have hal := one_belowQ (w8.alloc (.cells #[.string ⟨#[97]⟩, .string ⟨#[98]⟩, .string ⟨#[99]⟩, .string ⟨#[100]⟩, .string ⟨#[101]⟩, .string ⟨#[102]⟩] 9)) (.cells #[.string ⟨#[120, 120]⟩, (.slice (some ⟨gu, 0, none⟩) U.length cu), .string ⟨#[121, 121]⟩, (.slice (some ⟨gy, 0, none⟩) U.length cy), .string ⟨#[122, 122]⟩, (.slice (some ⟨w8.heap.size, 0, none⟩) 6 6)] 59)
              have hzw : w.heap.size + 2 ≤ (w8.alloc (.cells #[.string ⟨#[97]⟩, .string ⟨#[98]⟩, .string ⟨#[99]⟩, .string ⟨#[100]⟩, .string ⟨#[101]⟩, .string ⟨#[102]⟩] 9)).heap.size := Nat.le_trans (by omega) HBc.out.size
              have hbA : Below wr.heap.size wr ((w8.alloc (.cells #[.string ⟨#[97]⟩, .string ⟨#[98]⟩, .string ⟨#[99]⟩, .string ⟨#[100]⟩, .string ⟨#[101]⟩, .string ⟨#[102]⟩] 9)).alloc (.cells #[.string ⟨#[120, 120]⟩, (.slice (some ⟨gu, 0, none⟩) U.length cu), .string ⟨#[121, 121]⟩, (.slice (some ⟨gy, 0, none⟩) U.length cy), .string ⟨#[122, 122]⟩, (.slice (some ⟨w8.heap.size, 0, none⟩) 6 6)] 59)) := HBc.out.trans (hal.mono HBc.out.size)
              obtain ⟨x1, y1⟩ := (HXr.out.below hbA).c1
              refine wpAnyH_ready (rs := [13]) (by kernel_rfl) (by simp) ?_
              refine AllReadyH.cons rfl (fun K9 hK9 => ?_) AllReadyH.nil
              rw [if_pos (by rfl)]
              go_simp
              refine hK9.out _ _ (trivial) (fun hHeld6 => ?_)
              clear hK9 K9
              try simp only [Act.put, List.getElem_toArray, List.getElem_cons_succ, List.getElem_cons_zero, List.setIfInBounds_toArray, List.set_cons_zero, List.set_cons_succ]
              refine wpAnyH_done (by kernel_rfl) ?_ _
              go_wp2_with fail
              go_meet
              refine ⟨rfl, many_at (w := wr) (W := (w8.alloc (.cells #[.string ⟨#[97]⟩, .string ⟨#[98]⟩, .string ⟨#[99]⟩, .string ⟨#[100]⟩, .string ⟨#[101]⟩, .string ⟨#[102]⟩] 9)).alloc (.cells #[.string ⟨#[120, 120]⟩, (.slice (some ⟨gu, 0, none⟩) U.length cu), .string ⟨#[121, 121]⟩, (.slice (some ⟨gy, 0, none⟩) U.length cy), .string ⟨#[122, 122]⟩, (.slice (some ⟨w8.heap.size, 0, none⟩) 6 6)] 59)) (E := (w8.heap.size + 1)) (Z := [⟨#[97]⟩, ⟨#[98]⟩, ⟨#[99]⟩, ⟨#[100]⟩, ⟨#[101]⟩, ⟨#[102]⟩]) HXr.out HGr.out HLr.out hbA hU60 HUr.out HWr.out (OwnS.below HY.out hal) (w8.heap.size) 6 6 ?_ (by decide) ?_ (by omega) ?_ ?_ (by omega)⟩
              · exact (hal.block _ (Array.getElem?_eq_some_iff.1 HZ.out).1).trans HZ.out
              · exact Nat.le_trans (by omega) HEZ.out
              · exact heap_alloc2_new w8 _ _
              · have := HBc.out.size; (try simp only [World.size_alloc] at this); omega
            · rw [if_pos (by rfl)]
              go_simp
              refine hK9.out _ _ (trivial) (fun hHeld3 => ?_)
              clear hK9 K9
              try simp only [Act.put, List.getElem_toArray, List.getElem_cons_succ, List.getElem_cons_zero, List.setIfInBounds_toArray, List.set_cons_zero, List.set_cons_succ]
              have HE := Lib.hid (OwnS.below HE.out (one_belowQ (wr.drew.alloc (.cells #[] 9)) (.cells #[.string ⟨#[97]⟩, .string ⟨#[98]⟩, .string ⟨#[99]⟩, .string ⟨#[100]⟩, .string ⟨#[101]⟩, .string ⟨#[102]⟩] 9)))
              have HBc := Lib.hid (HBc.out.trans ((one_belowQ ((wr.drew.alloc (.cells #[] 9))) (.cells #[.string ⟨#[97]⟩, .string ⟨#[98]⟩, .string ⟨#[99]⟩, .string ⟨#[100]⟩, .string ⟨#[101]⟩, .string ⟨#[102]⟩] 9)).mono HBc.out.size))
              have HZ : Hid (((wr.drew.alloc (.cells #[] 9)).alloc (.cells #[.string ⟨#[97]⟩, .string ⟨#[98]⟩, .string ⟨#[99]⟩, .string ⟨#[100]⟩, .string ⟨#[101]⟩, .string ⟨#[102]⟩] 9)).heap[wr.heap.size + 1]? = some (.cells #[.string ⟨#[97]⟩, .string ⟨#[98]⟩, .string ⟨#[99]⟩, .string ⟨#[100]⟩, .string ⟨#[101]⟩, .string ⟨#[102]⟩] 9)) := Lib.hid (by have h := heap_alloc2_new wr.drew (.cells #[] 9) (.cells #[.string ⟨#[97]⟩, .string ⟨#[98]⟩, .string ⟨#[99]⟩, .string ⟨#[100]⟩, .string ⟨#[101]⟩, .string ⟨#[102]⟩] 9); exact h)
              have HEZ : Hid (wr.heap.size ≤ wr.heap.size + 1) := Lib.hid (by omega)
              refine wpAnyH_take (i := 9) (v := ?v27) rfl (by kernel_rfl) (by kernel_rfl) (by kernel_rfl) (fun _ _ _ h => h) (Or.inl ⟨by kernel_rfl, ?hy27⟩) (by assumption) ?_
              case hy27 => (intro w9 hS9; (try dsimp only at hS9); go_simp; (try with_reducible rfl))
              try simp only [Act.put, List.getElem_toArray, List.getElem_cons_succ, List.getElem_cons_zero, List.setIfInBounds_toArray, List.set_cons_zero, List.set_cons_succ]
              refine wpAnyH_take (i := 10) (v := ?v28) rfl (by kernel_rfl) (by kernel_rfl) (by kernel_rfl) (fun _ _ _ h => h) (Or.inl ⟨by kernel_rfl, ?hy28⟩) (by assumption) ?_
              case hy28 => (intro w9 hS9; (try dsimp only at hS9); go_simp; (try with_reducible rfl))
              try simp only [Act.put, List.getElem_toArray, List.getElem_cons_succ, List.getElem_cons_zero, List.setIfInBounds_toArray, List.set_cons_zero, List.set_cons_succ]
              refine wpAnyH_ready (rs := [4]) (by kernel_rfl) (by simp) ?_
              refine AllReadyH.cons rfl (fun K9 hK9 => ?_) AllReadyH.nil
              refine step_lst ?_ (.tmp 32) (.tmp 33) ?_ wr.heap.size (wr.heap.size) 0 0 [] rfl ?_ HE.out gu 0 U.length cu U rfl ?_ (fun j hj => cell_below (Below.trans (HBc.out) (Below.refl _ _)) (HcU.out j hj)) (by simp; omega) HBc.out.size U.length (by simp) U (by simp) ?_; rfl; rfl; rfl; rfl
              intro gy cy w8 how8 hgr8 _
              have HY := Lib.hid how8
              have HBd := Lib.hid (HBc.out.grown hgr8 HBc.out.size (fun q hq => by have e : wr.heap.size = q := Option.some.inj hq; omega))
              have HZ := Lib.hid ((hgr8.block _ (Array.getElem?_eq_some_iff.1 HZ.out).1 (by simp)).trans HZ.out)
              clear HBc
              have HBc := HBd
              refine hK9.out _ _ (trivial) (fun hHeld4 => ?_)
              clear hK9 K9
              try simp only [Act.put, List.getElem_toArray, List.getElem_cons_succ, List.getElem_cons_zero, List.setIfInBounds_toArray, List.set_cons_zero, List.set_cons_succ]
              refine wpAnyH_take (i := 5) (v := ?v29) rfl (by kernel_rfl) (by kernel_rfl) (by kernel_rfl) (fun _ _ _ h => h) (Or.inl ⟨by kernel_rfl, ?hy29⟩) (by assumption) ?_
              case hy29 => (intro w9 hS9; (try dsimp only at hS9); go_simp; (try with_reducible rfl))
              try simp only [Act.put, List.getElem_toArray, List.getElem_cons_succ, List.getElem_cons_zero, List.setIfInBounds_toArray, List.set_cons_zero, List.set_cons_succ]
              refine wpAnyH_ready (rs := [11]) (by kernel_rfl) (by simp) ?_
              refine AllReadyH.cons rfl (fun K9 hK9 => ?_) AllReadyH.nil
              rw [if_pos (by rfl)]
              go_simp
              refine hK9.out _ _ (trivial) (fun hHeld5 => ?_)
              clear hK9 K9
              try simp only [Act.put, List.getElem_toArray, List.getElem_cons_succ, List.getElem_cons_zero, List.setIfInBounds_toArray, List.set_cons_zero, List.set_cons_succ]
              refine wpAnyH_take (i := 12) (v := ?v30) rfl (by kernel_rfl) (by kernel_rfl) (by kernel_rfl) (fun _ _ _ h => h) (Or.inl ⟨by kernel_rfl, ?hy30⟩) (by assumption) ?_
              case hy30 => (intro w9 hS9; (try dsimp only at hS9); go_simp; (try with_reducible rfl))
              try simp only [Act.put, List.getElem_toArray, List.getElem_cons_succ, List.getElem_cons_zero, List.setIfInBounds_toArray, List.set_cons_zero, List.set_cons_succ]
              have hal := one_belowQ (w8) (.cells #[.string ⟨#[120, 120]⟩, (.slice (some ⟨gu, 0, none⟩) U.length cu), .string ⟨#[121, 121]⟩, (.slice (some ⟨gy, 0, none⟩) U.length cy), .string ⟨#[122, 122]⟩, (.slice (some ⟨wr.heap.size + 1, 0, none⟩) 6 6)] 59)
              have hzw : w.heap.size + 2 ≤ (w8).heap.size := Nat.le_trans (by omega) HBc.out.size
              have hbA : Below wr.heap.size wr ((w8).alloc (.cells #[.string ⟨#[120, 120]⟩, (.slice (some ⟨gu, 0, none⟩) U.length cu), .string ⟨#[121, 121]⟩, (.slice (some ⟨gy, 0, none⟩) U.length cy), .string ⟨#[122, 122]⟩, (.slice (some ⟨wr.heap.size + 1, 0, none⟩) 6 6)] 59)) := HBc.out.trans (hal.mono HBc.out.size)
              obtain ⟨x1, y1⟩ := (HXr.out.below hbA).c1
              refine wpAnyH_ready (rs := [13]) (by kernel_rfl) (by simp) ?_
              refine AllReadyH.cons rfl (fun K9 hK9 => ?_) AllReadyH.nil
              rw [if_pos (by rfl)]
              go_simp
              refine hK9.out _ _ (trivial) (fun hHeld6 => ?_)
              clear hK9 K9
              try simp only [Act.put, List.getElem_toArray, List.getElem_cons_succ, List.getElem_cons_zero, List.setIfInBounds_toArray, List.set_cons_zero, List.set_cons_succ]
              refine wpAnyH_done (by kernel_rfl) ?_ _
              go_wp2_with fail
              go_meet
              refine ⟨rfl, many_at (w := wr) (W := (w8).alloc (.cells #[.string ⟨#[120, 120]⟩, (.slice (some ⟨gu, 0, none⟩) U.length cu), .string ⟨#[121, 121]⟩, (.slice (some ⟨gy, 0, none⟩) U.length cy), .string ⟨#[122, 122]⟩, (.slice (some ⟨wr.heap.size + 1, 0, none⟩) 6 6)] 59)) (E := w8.heap.size) (Z := [⟨#[97]⟩, ⟨#[98]⟩, ⟨#[99]⟩, ⟨#[100]⟩, ⟨#[101]⟩, ⟨#[102]⟩]) HXr.out HGr.out HLr.out hbA hU60 HUr.out HWr.out (OwnS.below HY.out hal) (wr.heap.size + 1) 6 6 ?_ (by decide) ?_ (by omega) ?_ ?_ (by omega)⟩
              · exact (hal.block _ (Array.getElem?_eq_some_iff.1 HZ.out).1).trans HZ.out
              · exact Nat.le_trans (by omega) HEZ.out
              · exact heap_alloc_new w8 _
              · have := HBc.out.size; (try simp only [World.size_alloc] at this); omega
          · rw [if_pos (by rfl)]
            go_simp
            refine hK9.out _ _ (trivial) (fun hHeld2 => ?_)
            clear hK9 K9
            try simp only [Act.put, List.getElem_toArray, List.getElem_cons_succ, List.getElem_cons_zero, List.setIfInBounds_toArray, List.set_cons_zero, List.set_cons_succ]
            have HBc := Lib.hid (id ((Below.refl wr.heap.size wr).drew.trans (one_belowQ wr.drew (.cells #[.string ⟨#[97]⟩, .string ⟨#[98]⟩, .string ⟨#[99]⟩, .string ⟨#[100]⟩, .string ⟨#[101]⟩, .string ⟨#[102]⟩] 9))))
            have HZ : Hid ((wr.drew.alloc (.cells #[.string ⟨#[97]⟩, .string ⟨#[98]⟩, .string ⟨#[99]⟩, .string ⟨#[100]⟩, .string ⟨#[101]⟩, .string ⟨#[102]⟩] 9)).heap[wr.heap.size]? = some (.cells #[.string ⟨#[97]⟩, .string ⟨#[98]⟩, .string ⟨#[99]⟩, .string ⟨#[100]⟩, .string ⟨#[101]⟩, .string ⟨#[102]⟩] 9)) := Lib.hid (heap_alloc_new wr.drew (.cells #[.string ⟨#[97]⟩, .string ⟨#[98]⟩, .string ⟨#[99]⟩, .string ⟨#[100]⟩, .string ⟨#[101]⟩, .string ⟨#[102]⟩] 9))
            refine wpAnyH_take (i := 9) (v := ?v31) rfl (by kernel_rfl) (by kernel_rfl) (by kernel_rfl) (fun _ _ _ h => h) (Or.inl ⟨by kernel_rfl, ?hy31⟩) (by assumption) ?_
            case hy31 => (intro w9 hS9; (try dsimp only at hS9); go_simp; (try with_reducible rfl))
            try simp only [Act.put, List.getElem_toArray, List.getElem_cons_succ, List.getElem_cons_zero, List.setIfInBounds_toArray, List.set_cons_zero, List.set_cons_succ]
            refine wpAnyH_take (i := 10) (v := ?v32) rfl (by kernel_rfl) (by kernel_rfl) (by kernel_rfl) (fun _ _ _ h => h) (Or.inl ⟨by kernel_rfl, ?hy32⟩) (by assumption) ?_
            case hy32 => (intro w9 hS9; (try dsimp only at hS9); go_simp; (try with_reducible rfl))
            try simp only [Act.put, List.getElem_toArray, List.getElem_cons_succ, List.getElem_cons_zero, List.setIfInBounds_toArray, List.set_cons_zero, List.set_cons_succ]
            refine wpAnyH_ready (rs := [2]) (by kernel_rfl) (by simp) ?_
            refine AllReadyH.cons rfl (fun K9 hK9 => ?_) AllReadyH.nil
            rw [if_pos (by rfl)]
            go_simp
            refine hK9.out _ _ (trivial) (fun hHeld3 => ?_)
            clear hK9 K9
            try simp only [Act.put, List.getElem_toArray, List.getElem_cons_succ, List.getElem_cons_zero, List.setIfInBounds_toArray, List.set_cons_zero, List.set_cons_succ]
            have HZ := Lib.hid (((one_belowQ (wr.drew.alloc (.cells #[.string ⟨#[97]⟩, .string ⟨#[98]⟩, .string ⟨#[99]⟩, .string ⟨#[100]⟩, .string ⟨#[101]⟩, .string ⟨#[102]⟩] 9)) (.cells #[] 9)).block _ (Array.getElem?_eq_some_iff.1 HZ.out).1).trans HZ.out)
            have HE : Hid (OwnS ((wr.drew.alloc (.cells #[.string ⟨#[97]⟩, .string ⟨#[98]⟩, .string ⟨#[99]⟩, .string ⟨#[100]⟩, .string ⟨#[101]⟩, .string ⟨#[102]⟩] 9)).alloc (.cells #[] 9)) wr.heap.size (.slice (some ⟨wr.heap.size + 1, 0, none⟩) 0 0) []) := Lib.hid (by have h := OwnS.made ((wr.drew.alloc (.cells #[.string ⟨#[97]⟩, .string ⟨#[98]⟩, .string ⟨#[99]⟩, .string ⟨#[100]⟩, .string ⟨#[101]⟩, .string ⟨#[102]⟩] 9))) wr.heap.size (by simp); simpa using h)
            have HBc := Lib.hid (HBc.out.trans ((one_belowQ ((wr.drew.alloc (.cells #[.string ⟨#[97]⟩, .string ⟨#[98]⟩, .string ⟨#[99]⟩, .string ⟨#[100]⟩, .string ⟨#[101]⟩, .string ⟨#[102]⟩] 9))) (.cells #[] 9)).mono HBc.out.size))
            refine wpAnyH_ready (rs := [4]) (by kernel_rfl) (by simp) ?_
            refine AllReadyH.cons rfl (fun K9 hK9 => ?_) AllReadyH.nil
            refine step_lst ?_ (.tmp 32) (.tmp 33) ?_ wr.heap.size (wr.heap.size + 1) 0 0 [] rfl ?_ HE.out gu 0 U.length cu U rfl ?_ (fun j hj => cell_below (Below.trans (HBc.out) (Below.refl _ _)) (HcU.out j hj)) (by simp; omega) HBc.out.size U.length (by simp) U (by simp) ?_; rfl; rfl; rfl; rfl
            intro gy cy w8 how8 hgr8 _
            have HY := Lib.hid how8
            have HBd := Lib.hid (HBc.out.grown hgr8 HBc.out.size (fun q hq => by have e : wr.heap.size + 1 = q := Option.some.inj hq; omega))
            have HZ := Lib.hid ((hgr8.block _ (Array.getElem?_eq_some_iff.1 HZ.out).1 (by simp)).trans HZ.out)
            have HEZ : Hid (wr.heap.size ≤ wr.heap.size) := Lib.hid (Nat.le_refl _)
            clear HBc
            have HBc := HBd
            refine hK9.out _ _ (trivial) (fun hHeld4 => ?_)
            clear hK9 K9
            try simp only [Act.put, List.getElem_toArray, List.getElem_cons_succ, List.getElem_cons_zero, List.setIfInBounds_toArray, List.set_cons_zero, List.set_cons_succ]
            refine wpAnyH_take (i := 5) (v := ?v33) rfl (by kernel_rfl) (by kernel_rfl) (by kernel_rfl) (fun _ _ _ h => h) (Or.inl ⟨by kernel_rfl, ?hy33⟩) (by assumption) ?_
            case hy33 => (intro w9 hS9; (try dsimp only at hS9); go_simp; (try with_reducible rfl))
            try simp only [Act.put, List.getElem_toArray, List.getElem_cons_succ, List.getElem_cons_zero, List.setIfInBounds_toArray, List.set_cons_zero, List.set_cons_succ]
            refine wpAnyH_ready (rs := [11]) (by kernel_rfl) (by simp) ?_
            refine AllReadyH.cons rfl (fun K9 hK9 => ?_) AllReadyH.nil
            rw [if_pos (by rfl)]
            go_simp
            refine hK9.out _ _ (trivial) (fun hHeld5 => ?_)
            clear hK9 K9
            try simp only [Act.put, List.getElem_toArray, List.getElem_cons_succ, List.getElem_cons_zero, List.setIfInBounds_toArray, List.set_cons_zero, List.set_cons_succ]
            refine wpAnyH_take (i := 12) (v := ?v34) rfl (by kernel_rfl) (by kernel_rfl) (by kernel_rfl) (fun _ _ _ h => h) (Or.inl ⟨by kernel_rfl, ?hy34⟩) (by assumption) ?_
            case hy34 => (intro w9 hS9; (try dsimp only at hS9); go_simp; (try with_reducible rfl))
            try simp only [Act.put, List.getElem_toArray, List.getElem_cons_succ, List.getElem_cons_zero, List.setIfInBounds_toArray, List.set_cons_zero, List.set_cons_succ]
            have hal := one_belowQ (w8) (.cells #[.string ⟨#[120, 120]⟩, (.slice (some ⟨gu, 0, none⟩) U.length cu), .string ⟨#[121, 121]⟩, (.slice (some ⟨gy, 0, none⟩) U.length cy), .string ⟨#[122, 122]⟩, (.slice (some ⟨wr.heap.size, 0, none⟩) 6 6)] 59)
            have hzw : w.heap.size + 2 ≤ (w8).heap.size := Nat.le_trans (by omega) HBc.out.size
            have hbA : Below wr.heap.size wr ((w8).alloc (.cells #[.string ⟨#[120, 120]⟩, (.slice (some ⟨gu, 0, none⟩) U.length cu), .string ⟨#[121, 121]⟩, (.slice (some ⟨gy, 0, none⟩) U.length cy), .string ⟨#[122, 122]⟩, (.slice (some ⟨wr.heap.size, 0, none⟩) 6 6)] 59)) := HBc.out.trans (hal.mono HBc.out.size)
            obtain ⟨x1, y1⟩ := (HXr.out.below hbA).c1
            refine wpAnyH_ready (rs := [13]) (by kernel_rfl) (by simp) ?_
            refine AllReadyH.cons rfl (fun K9 hK9 => ?_) AllReadyH.nil
            rw [if_pos (by rfl)]
            go_simp
            refine hK9.out _ _ (trivial) (fun hHeld6 => ?_)
            clear hK9 K9
            try simp only [Act.put, List.getElem_toArray, List.getElem_cons_succ, List.getElem_cons_zero, List.setIfInBounds_toArray, List.set_cons_zero, List.set_cons_succ]
            refine wpAnyH_done (by kernel_rfl) ?_ _
            go_wp2_with fail
            go_meet
            refine ⟨rfl, many_at (w := wr) (W := (w8).alloc (.cells #[.string ⟨#[120, 120]⟩, (.slice (some ⟨gu, 0, none⟩) U.length cu), .string ⟨#[121, 121]⟩, (.slice (some ⟨gy, 0, none⟩) U.length cy), .string ⟨#[122, 122]⟩, (.slice (some ⟨wr.heap.size, 0, none⟩) 6 6)] 59)) (E := w8.heap.size) (Z := [⟨#[97]⟩, ⟨#[98]⟩, ⟨#[99]⟩, ⟨#[100]⟩, ⟨#[101]⟩, ⟨#[102]⟩]) HXr.out HGr.out HLr.out hbA hU60 HUr.out HWr.out (OwnS.below HY.out hal) (wr.heap.size) 6 6 ?_ (by decide) ?_ (by omega) ?_ ?_ (by omega)⟩
            · exact (hal.block _ (Array.getElem?_eq_some_iff.1 HZ.out).1).trans HZ.out
            · exact Nat.le_trans (by omega) HEZ.out
            · exact heap_alloc_new w8 _
            · have := HBc.out.size; (try simp only [World.size_alloc] at this); omega
        case rest =>
          obtain ⟨rfl, a2, n2, c2, hx, ⟨x, hgx, hnx⟩, hkk⟩ := hcut
          have HXc : Hid (BoxG wc (w.heap.size + 1) (.slice a1 A.length c1) (.slice a2 n2 c2)) := Lib.hid hx
          have HGx := Lib.hid hgx
          have HNx := Lib.hid hnx
          have HKc := Lib.hid (HKr.out.trans hkk)
          clear hx hgx hnx hkk
          have HR := Lib.hid ((HKc.out.block w.heap.size (by omega) (by omega) (by omega)).trans HRes.out)
          obtain ⟨x0, y0⟩ := HXc.out.c0
          obtain ⟨x1, y1⟩ := HXc.out.c1
          obtain ⟨d0, q0⟩ := src_cell (i := 0) (v := .slice none 0 0) HR.out rfl
          obtain ⟨d1, q1⟩ := src_cell (i := 1) (v := .slice none 0 0) HR.out rfl
          go_wp2
          have st := store2 HR.out (.slice a1 A.length c1) (.slice a2 n2 c2)
          refine bodyPost_ret (v := .agg #[.slice a1 A.length c1, .slice a2 n2 c2]) (results_cell_row (p := 2) (ty := 27) rfl _ _ w.heap.size _ _ _ _ rfl st.1 Tryz.underlying27 rfl infoGra) rfl ⟨_, _, rfl, ⟨x, ?_, HNx.out⟩, ?_⟩
          · exact (HGx.out.kept st.2.1 (.inr (by omega))).mono (by omega) (by rw [st.2.2]; exact Nat.le_refl _)
          · exact (HB0.out.trans (HKc.out.low2 (by omega) (by omega))).trans (st.2.1.below (Nat.le_refl _) (by have := HKc.out.size; omega))
end Go.Proofs.YtndfhmphlomeiaaGreatDoor
