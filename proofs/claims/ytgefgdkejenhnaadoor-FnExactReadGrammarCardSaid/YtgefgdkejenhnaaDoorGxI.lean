/- GrammarText of the program: lines out of strings.Join, into a strings.Builder. Condition: MaxLen's cell. -/
import Derived.Test.YtgefgdkejenhnaaDoorGxT
import Derived.Test.YtgefgdkejenhnaaDoorVj
import Derived.Test.YtgefgdkejenhnaaDoorSc
import Derived.Test.YtgefgdkejenhnaaDoorAl
import Derived.Test.YtgefgdkejenhnaaDoorAt
set_option linter.unusedSimpArgs false
namespace Go.Proofs.YtgefgdkejenhnaaDoor
open Go.RowKit
theorem IsB.belowG {B b : Nat} {l : List UInt8} {w w' : World} (h : IsB B b l w) (hb : Below w.heap.size w w') : IsB B b l w' := by
  have hat : ∀ p, Lib.BuilderAt 91 5 B b p (Lib.byteCells l) w → Lib.BuilderAt 91 5 B b p (Lib.byteCells l) w' := by
    rintro p ⟨hB, v, hbk, hown, hne⟩
    refine ⟨hB, v, (hb.block b (Array.getElem?_eq_some_iff.1 hbk).1).trans hbk, ?_, hne⟩
    exact World.ownsRow.kept hown ⟨hb.os, hb.tape, hb.output, hb.size, fun k hk _ => hb.block k hk⟩ (by cases v.ownBlock <;> simp) (row := none)
  exact h.imp (hat _) (hat _)
attribute [local irreducible] Calls
theorem dashed_is {s r : ByteArray} (h : dashB s = r) (w : World) : Calls Tryd.prog 59 #[.string s] w fun e w' => e = .returned (.string r) ∧ w = w' := by
  subst h
  cases h : s.toList.isEmpty
  · have H := Lib.hid (show dashB s = s by simp [dashB, h])
    go_enter Tryd.func59, Tryd.ntmps59
    go_wp2
    go_ret
    exact ⟨ret_str H.out.symm, rfl⟩
  · have H := Lib.hid (show dashB s = ⟨#[45]⟩ by simp [dashB, h])
    go_enter Tryd.func59, Tryd.ntmps59
    go_wp2
    go_ret
    exact ⟨ret_str H.out.symm, rfl⟩
/-- strings.Join of a row that was made just ahead. -/
theorem joinNew (w : World) (l : List ByteArray) (J : List UInt8) (hJ : Lib.join (l.map (·.data.toList)) [32] = J) (n : Nat) (hn : n = l.length) (us : Array Value) (hus : us = (l.map Value.string).toArray) (hl : J.length ≤ 100000) (hn2 : l.length ≤ 1000000) :
    Calls Tryd.prog 58 #[.slice (some ⟨w.heap.size, 0, none⟩) n n, .string ⟨#[32]⟩] (w.alloc (.cells us 9)).drew fun e w' => ∃ r, e = .returned (.string r) ∧ r.data.toList = J ∧ Below w.heap.size w w' := by
  subst hn hus hJ
  have h := Tryd.strings_Join w.heap.size 0 l.length l ⟨#[32]⟩ (w.alloc (.cells (l.map Value.string).toArray 9)).drew (fun j u hj => by
    show (w.alloc (.cells (l.map Value.string).toArray 9)).cell? _ = _
    simp only [World.cell?, heap_alloc_new, Nat.zero_add]
    simp [hj]) (by simp) (by omega) (Nat.le_refl _) (by show (Lib.join _ [32]).length ≤ _; omega)
  refine h.mono ?_
  rintro e w' ⟨rfl, hb⟩
  exact ⟨_, rfl, rfl, (((Below.refl _ _).alloc (Nat.le_refl _) _).drew).trans (hb.mono (by simp))⟩
/-- strings.Join of a slice of the call's own. -/
theorem joinOwn {w : World} {B g n cap : Nat} {l : List ByteArray} (hown : OwnS w B (.slice (some ⟨g, 0, none⟩) n cap) l) (J : List UInt8) (hJ : Lib.join (l.map (·.data.toList)) [32] = J) (hl : J.length ≤ 100000) (hn : l.length ≤ 1000000) :
    Calls Tryd.prog 58 #[.slice (some ⟨g, 0, none⟩) n cap, .string ⟨#[32]⟩] w fun e w' => ∃ r, e = .returned (.string r) ∧ r.data.toList = J ∧ Below w.heap.size w w' := by
  subst hJ
  have hlt : g < w.heap.size := (World.ownsRow.lt hown g rfl).2
  obtain ⟨a', c', e, hc, -⟩ := hown.shape
  injection e with e1 e2 e3
  subst e2
  subst e3
  refine (Tryd.strings_Join g 0 cap l ⟨#[32]⟩ w (fun j u hj => ?_) hlt (by omega) hc (by show (Lib.join _ [32]).length ≤ _; omega)).mono ?_
  · have h1 := World.ownsRow.cells hown (g := g) rfl j (.string u) (by rw [List.getElem?_map, hj]; rfl)
    have h2 : (⟨g, 0, none⟩ : Addr).add j = ⟨g, 0 + j, none⟩ := by unfold Addr.add; split <;> simp_all
    rw [h2] at h1
    exact h1
  · rintro e w' ⟨rfl, hb⟩
    exact ⟨_, rfl, rfl, hb⟩
theorem ba_app_size (a b : ByteArray) : (a ++ b).size = a.size + b.size := ByteArray.size_append
theorem cell_of_same {w w' : World} {b o : Nat} {u : Value} (h : w'.heap[b]? = w.heap[b]?) (hc : w.cell? ⟨b, o, none⟩ = some u) : w'.cell? ⟨b, o, none⟩ = some u := by
  rw [← hc]; simp only [World.cell?, h]
theorem bigJ {n m : Nat} (h : n = m) (h2 : m ≤ 100000) : (9223372036854775807 < n + 1) = False := eq_false (by omega)
set_option maxHeartbeats 8000000 in
set_option maxRecDepth 200000 in
theorem implGrammarText_any (v : Value) (x : GraD) (w : World) (hv : GraR w v x) (hM : MaxL w) :
    Calls Tryd.prog 25 #[v] w fun e w' => e = .returned (.string (gtV x)) ∧ Below w.heap.size w w' := by
  have HV := Lib.hid hv
  obtain ⟨s1, s2, rfl, ha, hs⟩ := hv
  obtain ⟨a1, k1, rfl, hl1, hk1, hcs1⟩ := ha.shape
  obtain ⟨a2, k2, rfl, hl2, hk2, hcs2⟩ := hs.shape
  unfold maxLen at hk1 hk2
  have hb0 : Below w.heap.size w (w.alloc (.cells #[.slice a1 x.affixes.length k1, .slice a2 x.stems.length k2] 31)) := (Below.refl _ _).alloc (Nat.le_refl _) _
  have g0 := cell_newi w #[.slice a1 x.affixes.length k1, .slice a2 x.stems.length k2] 31 0 (.slice a1 x.affixes.length k1) rfl
  have g1 := cell_newi w #[.slice a1 x.affixes.length k1, .slice a2 x.stems.length k2] 31 1 (.slice a2 x.stems.length k2) rfl
  have hz0 : (w.alloc (.cells #[.slice a1 x.affixes.length k1, .slice a2 x.stems.length k2] 31)).heap.size = w.heap.size + 1 := by simp
  have HB0 := Lib.hid hb0
  have HV0 := Lib.hid (HV.out.below hb0)
  have HM0 := Lib.hid (hM.below hb0)
  clear ha hs hM hb0
  go_enter Tryd.func25, Tryd.ntmps25
  go_wp2_with fail
  refine (implValidGrammar_any _ x _ HV0.out HM0.out).mono ?_
  rintro e w1 ⟨rfl, hb1⟩
  have HB1 := Lib.hid (HB0.out.trans (hb1.mono HB0.out.size))
  have g0 := cell_below hb1 g0
  have g1 := cell_below hb1 g1
  have hz1 : w.heap.size < w1.heap.size := by have := hb1.size; omega
  clear hb1
  cases hg : graB x
  · have Hg := Lib.hid hg
    go_wp2
    go_ret
    exact ⟨ret_str (gtV_no Hg.out).symm, HB1.out⟩
  · have Hg := Lib.hid hg
    have HS := Lib.hid (graS hg)
    have hn12 := (graS hg).a
    have hn30 := (graS hg).s
    have HC1 := Lib.hid hcs1
    have HC2 := Lib.hid hcs2
    have g0a := cell_alloc (.cells #[.pointer none, .slice none 0 0] 91) g0
    have g1a := cell_alloc (.cells #[.pointer none, .slice none 0 0] 91) g1
    have HIs := Lib.hid (IsB.fresh w1 w1.heap.size (Nat.le_refl _))
    have HBf := Lib.hid ((Below.refl w1.heap.size w1).alloc (Nat.le_refl _) (.cells #[.pointer none, .slice none 0 0] 91))
    clear hg hcs1 hcs2
    go_wp2
    clear g0a g1a
    go_loopw [15] (fun i wr => ∃ j : Nat, j ≤ x.affixes.length ∧ i = .int .i64 (j : Int) ∧ Hid (IsB w1.heap.size w1.heap.size ((x.affixes.take j).flatMap affT) wr) ∧ Hid (Below w1.heap.size w1 wr)) (fun i _ => x.affixes.length - (intOf i).toNat)
    case atStart => exact ⟨0, by omega, rfl, Lib.hid (by simpa using HIs.out), HBf⟩
    case round =>
      clear HIs HBf
      obtain ⟨j, hj, rfl, HI, HB⟩ := hrel
      have h0 := cell_below HB.out g0
      have h1 := cell_below HB.out g1
      have hzr := HB.out.size
      by_cases hlt : j < x.affixes.length
      · obtain ⟨b1, o1, rfl, e0, e1, e2, e3, e4, -⟩ := HC1.out j hlt
        have hBw := HB1.out.trans (HB.out.mono HB1.out.size)
        have hA := HS.out.afs j hlt
        have hA48 := joinA_le hA
        have hT := affs_le HS.out j
        have hA4 := affT_le hA
        obtain ⟨p1, hp1⟩ : ∃ p1, dashB x.affixes[j].cond = p1 := ⟨_, rfl⟩
        obtain ⟨p2, hp2⟩ : ∃ p2, dashB x.affixes[j].strip = p2 := ⟨_, rfl⟩
        obtain ⟨p3, hp3⟩ : ∃ p3, dashB x.affixes[j].add = p3 := ⟨_, rfl⟩
        have HP := Lib.hid (And.intro hp1 (And.intro hp2 hp3))
        have e0 := cell_below hBw e0
        have e1 := cell_below hBw e1
        have e2 := cell_below hBw e2
        have e3 := cell_below hBw e3
        have e4 := cell_below hBw e4
        have hbn : Below wr.heap.size wr (wr.alloc (.cells #[.string x.affixes[j].name, .bool x.affixes[j].front, .string x.affixes[j].cond, .string x.affixes[j].strip, .string x.affixes[j].add] 64)) := (Below.refl _ _).alloc (Nat.le_refl _) _
        have HIn := Lib.hid (HI.out.belowG hbn)
        have HBn := Lib.hid hbn
        clear hA hp1 hp2 hp3 hBw hbn
        cases hf : x.affixes[j].front
        · have HF := Lib.hid hf
          have c0 := cell_newi wr #[.string x.affixes[j].name, .bool x.affixes[j].front, .string x.affixes[j].cond, .string x.affixes[j].strip, .string x.affixes[j].add] 64 0 (.string x.affixes[j].name) rfl
          have c1 := cell_newi wr #[.string x.affixes[j].name, .bool x.affixes[j].front, .string x.affixes[j].cond, .string x.affixes[j].strip, .string x.affixes[j].add] 64 1 (.bool x.affixes[j].front) rfl
          have c2 := cell_newi wr #[.string x.affixes[j].name, .bool x.affixes[j].front, .string x.affixes[j].cond, .string x.affixes[j].strip, .string x.affixes[j].add] 64 2 (.string x.affixes[j].cond) rfl
          have c3 := cell_newi wr #[.string x.affixes[j].name, .bool x.affixes[j].front, .string x.affixes[j].cond, .string x.affixes[j].strip, .string x.affixes[j].add] 64 3 (.string x.affixes[j].strip) rfl
          have c4 := cell_newi wr #[.string x.affixes[j].name, .bool x.affixes[j].front, .string x.affixes[j].cond, .string x.affixes[j].strip, .string x.affixes[j].add] 64 4 (.string x.affixes[j].add) rfl
          have hJ : Lib.join (([⟨#[97, 102, 102, 105, 120]⟩, x.affixes[j].name, ⟨#[98, 97, 99, 107]⟩, p1, p2, p3] : List ByteArray).map (·.data.toList)) [32] = Lib.join ((affW x.affixes[j]).map (·.data.toList)) [32] := by rw [affW, HP.out.1, HP.out.2.1, HP.out.2.2, hf]; rfl
          obtain ⟨J, hJe⟩ : ∃ J, Lib.join ((affW x.affixes[j]).map (·.data.toList)) [32] = J := ⟨_, rfl⟩
          rw [hJe] at hJ hA48
          have HJ := Lib.hid hJ
          have HJe := Lib.hid hJe
          rw [hf] at e1 c0 c1 c2 c3 c4 HIn HBn
          have hzq : (wr.alloc (.cells #[.string x.affixes[j].name, .bool false, .string x.affixes[j].cond, .string x.affixes[j].strip, .string x.affixes[j].add] 64)).heap.size = wr.heap.size + 1 := by simp
          have HI0 := HI
          clear hf hJ hJe HI
          go_wp2_with fail
          generalize wr.alloc (.cells #[.string x.affixes[j].name, .bool false, .string x.affixes[j].cond, .string x.affixes[j].strip, .string x.affixes[j].add] 64) = wq at HIn HBn c0 c1 c2 c3 c4 hzq ⊢
          have hqlt : wr.heap.size < wq.heap.size := by omega
          clear c1 hzq
          go_region_held3 (fun w' => w'.cell? ⟨wr.heap.size, 0, none⟩ = some (.string x.affixes[j].name) ∧ w'.cell? ⟨wr.heap.size, 2, none⟩ = some (.string x.affixes[j].cond) ∧ w'.cell? ⟨wr.heap.size, 3, none⟩ = some (.string x.affixes[j].strip) ∧ w'.cell? ⟨wr.heap.size, 4, none⟩ = some (.string x.affixes[j].add))
            (first | exact ⟨c0, c2, c3, c4⟩ | assumption | exact ⟨cell_of_same hk5 (cell_below hb4 c0), cell_of_same hk5 (cell_below hb4 c2), cell_of_same hk5 (cell_below hb4 c3), cell_of_same hk5 (cell_below hb4 c4)⟩ | exact ⟨cell_below hb4 c0, cell_below hb4 c2, cell_below hb4 c3, cell_below hb4 c4⟩ | exact ⟨cell_alloc _ c0, cell_alloc _ c2, cell_alloc _ c3, cell_alloc _ c4⟩)
            (first
              | (go_at_call 59; refine (dashed_is HP.out.1 _).mono ?_; rintro e w2 ⟨rfl, rfl⟩)
              | (go_at_call 59; refine (dashed_is HP.out.2.1 _).mono ?_; rintro e w2 ⟨rfl, rfl⟩)
              | (go_at_call 59; refine (dashed_is HP.out.2.2 _).mono ?_; rintro e w2 ⟨rfl, rfl⟩)
              | (go_at_call 57; refine (writeString_at w1.heap.size w1.heap.size _ _ wr _ HI0.out (HBn.out.trans (hb4.mono HBn.out.size)) (HIn.out.belowG hb4) (Nat.lt_of_lt_of_le hqlt hb4.size) (by rw [ba_app_size, HRN.out]; show _ + (J.length + 1) ≤ _; omega) (Nat.le_trans hzr (Nat.le_trans HBn.out.size hb4.size))).mono ?_; rintro e w5 ⟨rfl, hI5, hb5, hk5⟩)
              | (go_at_call 58; refine (joinNew wq [⟨#[97, 102, 102, 105, 120]⟩, x.affixes[j].name, ⟨#[98, 97, 99, 107]⟩, p1, p2, p3] J HJ.out 6 rfl _ rfl (by omega) (by show 6 ≤ 1000000; omega)).mono ?_; rintro e w4 ⟨r, rfl, hr, hb4'⟩; have HR := Lib.hid hr; have hb4 : Below wq.heap.size wq w4 := hb4'; have hrs := bigJ (ba_size hr) (by omega); have HRN := Lib.hid (ba_size hr); clear hr hb4'))
          have HI5 : Hid (IsB w1.heap.size w1.heap.size ((x.affixes.take (j + 1)).flatMap affT) w5) := Lib.hid (by
            rw [flat_snoc _ _ _ hlt, ← join_affW, HJe.out, ← HR.out]
            simpa using hI5)
          have HB5 : Hid (Below w1.heap.size w1 w5) := Lib.hid ((HB.out.trans ((HBn.out.trans (hb4.mono HBn.out.size)).mono hzr)).trans hb5)
          clear hI5 hb5 hk5 hb4 c0 c2 c3 c4
          go_wp2
          go_roundw
          case rel => exact ⟨j + 1, by omega, by go_num, HI5, HB5⟩
          case measure => simp [intOf]; omega
        · have HF := Lib.hid hf
          have c0 := cell_newi wr #[.string x.affixes[j].name, .bool x.affixes[j].front, .string x.affixes[j].cond, .string x.affixes[j].strip, .string x.affixes[j].add] 64 0 (.string x.affixes[j].name) rfl
          have c1 := cell_newi wr #[.string x.affixes[j].name, .bool x.affixes[j].front, .string x.affixes[j].cond, .string x.affixes[j].strip, .string x.affixes[j].add] 64 1 (.bool x.affixes[j].front) rfl
          have c2 := cell_newi wr #[.string x.affixes[j].name, .bool x.affixes[j].front, .string x.affixes[j].cond, .string x.affixes[j].strip, .string x.affixes[j].add] 64 2 (.string x.affixes[j].cond) rfl
          have c3 := cell_newi wr #[.string x.affixes[j].name, .bool x.affixes[j].front, .string x.affixes[j].cond, .string x.affixes[j].strip, .string x.affixes[j].add] 64 3 (.string x.affixes[j].strip) rfl
          have c4 := cell_newi wr #[.string x.affixes[j].name, .bool x.affixes[j].front, .string x.affixes[j].cond, .string x.affixes[j].strip, .string x.affixes[j].add] 64 4 (.string x.affixes[j].add) rfl
          have hJ : Lib.join (([⟨#[97, 102, 102, 105, 120]⟩, x.affixes[j].name, ⟨#[102, 114, 111, 110, 116]⟩, p1, p2, p3] : List ByteArray).map (·.data.toList)) [32] = Lib.join ((affW x.affixes[j]).map (·.data.toList)) [32] := by rw [affW, HP.out.1, HP.out.2.1, HP.out.2.2, hf]; rfl
          obtain ⟨J, hJe⟩ : ∃ J, Lib.join ((affW x.affixes[j]).map (·.data.toList)) [32] = J := ⟨_, rfl⟩
          rw [hJe] at hJ hA48
          have HJ := Lib.hid hJ
          have HJe := Lib.hid hJe
          rw [hf] at e1 c0 c1 c2 c3 c4 HIn HBn
          have hzq : (wr.alloc (.cells #[.string x.affixes[j].name, .bool true, .string x.affixes[j].cond, .string x.affixes[j].strip, .string x.affixes[j].add] 64)).heap.size = wr.heap.size + 1 := by simp
          have HI0 := HI
          clear hf hJ hJe HI
          go_wp2_with fail
          generalize wr.alloc (.cells #[.string x.affixes[j].name, .bool true, .string x.affixes[j].cond, .string x.affixes[j].strip, .string x.affixes[j].add] 64) = wq at HIn HBn c0 c1 c2 c3 c4 hzq ⊢
          have hqlt : wr.heap.size < wq.heap.size := by omega
          clear c1 hzq
          go_region_held3 (fun w' => w'.cell? ⟨wr.heap.size, 0, none⟩ = some (.string x.affixes[j].name) ∧ w'.cell? ⟨wr.heap.size, 2, none⟩ = some (.string x.affixes[j].cond) ∧ w'.cell? ⟨wr.heap.size, 3, none⟩ = some (.string x.affixes[j].strip) ∧ w'.cell? ⟨wr.heap.size, 4, none⟩ = some (.string x.affixes[j].add))
            (first | exact ⟨c0, c2, c3, c4⟩ | assumption | exact ⟨cell_of_same hk5 (cell_below hb4 c0), cell_of_same hk5 (cell_below hb4 c2), cell_of_same hk5 (cell_below hb4 c3), cell_of_same hk5 (cell_below hb4 c4)⟩ | exact ⟨cell_below hb4 c0, cell_below hb4 c2, cell_below hb4 c3, cell_below hb4 c4⟩ | exact ⟨cell_alloc _ c0, cell_alloc _ c2, cell_alloc _ c3, cell_alloc _ c4⟩)
            (first
              | (go_at_call 59; refine (dashed_is HP.out.1 _).mono ?_; rintro e w2 ⟨rfl, rfl⟩)
              | (go_at_call 59; refine (dashed_is HP.out.2.1 _).mono ?_; rintro e w2 ⟨rfl, rfl⟩)
              | (go_at_call 59; refine (dashed_is HP.out.2.2 _).mono ?_; rintro e w2 ⟨rfl, rfl⟩)
              | (go_at_call 57; refine (writeString_at w1.heap.size w1.heap.size _ _ wr _ HI0.out (HBn.out.trans (hb4.mono HBn.out.size)) (HIn.out.belowG hb4) (Nat.lt_of_lt_of_le hqlt hb4.size) (by rw [ba_app_size, HRN.out]; show _ + (J.length + 1) ≤ _; omega) (Nat.le_trans hzr (Nat.le_trans HBn.out.size hb4.size))).mono ?_; rintro e w5 ⟨rfl, hI5, hb5, hk5⟩)
              | (go_at_call 58; refine (joinNew wq [⟨#[97, 102, 102, 105, 120]⟩, x.affixes[j].name, ⟨#[102, 114, 111, 110, 116]⟩, p1, p2, p3] J HJ.out 6 rfl _ rfl (by omega) (by show 6 ≤ 1000000; omega)).mono ?_; rintro e w4 ⟨r, rfl, hr, hb4'⟩; have HR := Lib.hid hr; have hb4 : Below wq.heap.size wq w4 := hb4'; have hrs := bigJ (ba_size hr) (by omega); have HRN := Lib.hid (ba_size hr); clear hr hb4'))
          have HI5 : Hid (IsB w1.heap.size w1.heap.size ((x.affixes.take (j + 1)).flatMap affT) w5) := Lib.hid (by
            rw [flat_snoc _ _ _ hlt, ← join_affW, HJe.out, ← HR.out]
            simpa using hI5)
          have HB5 : Hid (Below w1.heap.size w1 w5) := Lib.hid ((HB.out.trans ((HBn.out.trans (hb4.mono HBn.out.size)).mono hzr)).trans hb5)
          clear hI5 hb5 hk5 hb4 c0 c2 c3 c4
          go_wp2
          go_roundw
          case rel => exact ⟨j + 1, by omega, by go_num, HI5, HB5⟩
          case measure => simp [intOf]; omega
      · obtain rfl : j = x.affixes.length := by omega
        have HI1 : Hid (IsB w1.heap.size w1.heap.size (x.affixes.flatMap affT ++ (x.stems.take 0).flatMap stmT) wr) := Lib.hid (by have := HI.out; rw [flat_all] at this; simpa using this)
        clear HI HC1
        go_wp2
        go_loopw [41] (fun i wr => ∃ j : Nat, j ≤ x.stems.length ∧ i = .int .i64 (j : Int) ∧ Hid (IsB w1.heap.size w1.heap.size (x.affixes.flatMap affT ++ (x.stems.take j).flatMap stmT) wr) ∧ Hid (Below w1.heap.size w1 wr)) (fun i _ => x.stems.length - (intOf i).toNat)
        case atStart => exact ⟨0, by omega, rfl, HI1, HB⟩
        case round =>
          clear HI1 HB h0 h1 hzr
          obtain ⟨j, hj, rfl, HI, HB⟩ := hrel
          have h0 := cell_below HB.out g0
          have h1 := cell_below HB.out g1
          have hzr := HB.out.size
          by_cases hlt : j < x.stems.length
          · obtain ⟨b2, o2, u, rfl, e0, e1, -, hu⟩ := HC2.out j hlt
            obtain ⟨ua, uc, rfl, hul, huc, -⟩ := hu.shape
            unfold maxLen at huc
            have hBw := HB1.out.trans (HB.out.mono HB1.out.size)
            have hM := HS.out.sts j hlt
            have hM180 := joinS_le hM
            have hu12 := hM.u
            have hTa := affs_le HS.out x.affixes.length
            rw [flat_all] at hTa
            have hTs := stms_le HS.out j
            obtain ⟨J, hJe⟩ : ∃ J, Lib.join ((stmW x.stems[j]).map (·.data.toList)) [32] = J := ⟨_, rfl⟩
            rw [hJe] at hM180
            have HJ := Lib.hid hJe
            have e0 := cell_below hBw e0
            have e1 := cell_below hBw e1
            have hbn := ((Below.refl wr.heap.size wr).alloc (Nat.le_refl _) (.cells #[.string x.stems[j].word, .slice ua x.stems[j].uses.length uc] 67)).alloc (by simp) (.cells #[.string ⟨#[115, 116, 101, 109]⟩, .string x.stems[j].word] 9)
            have HBn := Lib.hid hbn
            have HU := Lib.hid ((hu.below hBw).below hbn)
            have c0 := cell_newi wr #[.string x.stems[j].word, .slice ua x.stems[j].uses.length uc] 67 0 (.string x.stems[j].word) rfl
            have c1 := cell_alloc (.cells #[.string ⟨#[115, 116, 101, 109]⟩, .string x.stems[j].word] 9) (cell_newi wr #[.string x.stems[j].word, .slice ua x.stems[j].uses.length uc] 67 1 (.slice ua x.stems[j].uses.length uc) rfl)
            have hzq : (wr.alloc (.cells #[.string x.stems[j].word, .slice ua x.stems[j].uses.length uc] 67)).heap.size = wr.heap.size + 1 := by simp
            have HOW : Hid (OwnS ((wr.alloc (.cells #[.string x.stems[j].word, .slice ua x.stems[j].uses.length uc] 67)).alloc (.cells #[.string ⟨#[115, 116, 101, 109]⟩, .string x.stems[j].word] 9)) (wr.heap.size + 1) (.slice (some ⟨wr.heap.size + 1, 0, none⟩) 2 2) [⟨#[115, 116, 101, 109]⟩, x.stems[j].word]) := Lib.hid (by
              have := World.ownsRow_lit (base := wr.heap.size + 1) (e := 9) (size := 1) (wr.alloc (.cells #[.string x.stems[j].word, .slice ua x.stems[j].uses.length uc] 67)) #[.string ⟨#[115, 116, 101, 109]⟩, .string x.stems[j].word] 2 (by simp) (by unfold maxLen; omega) rfl
              rw [hzq] at this
              exact this)
            have hz2 : wr.heap.size + 1 ≤ ((wr.alloc (.cells #[.string x.stems[j].word, .slice ua x.stems[j].uses.length uc] 67)).alloc (.cells #[.string ⟨#[115, 116, 101, 109]⟩, .string x.stems[j].word] 9)).heap.size := by simp
            have HZ2 := Lib.hid hz2
            clear hM hu hbn hBw hJe hzq hz2
            go_wp2_with (first
              | (at_builtin; refine app_lst (w := (wr.alloc (.cells #[.string x.stems[j].word, .slice ua x.stems[j].uses.length uc] 67)).alloc (.cells #[.string ⟨#[115, 116, 101, 109]⟩, .string x.stems[j].word] 9)) rfl (.tmp 47) (.tmp 49) rfl (wr.heap.size + 1) (wr.heap.size + 1) 2 2 [⟨#[115, 116, 101, 109]⟩, x.stems[j].word] rfl rfl HOW.out ua x.stems[j].uses.length uc x.stems[j].uses rfl HU.out (by show 2 + _ ≤ _; omega) HZ2.out (2 + x.stems[j].uses.length) rfl (stmW x.stems[j]) rfl ?_; intro g cap w2 hown2 hgr2 hloc2)
              | fail)
            have HB2 : Hid (Below wr.heap.size wr w2) := Lib.hid (HBn.out.grown hgr2 (Nat.le_trans (Nat.le_succ _) HZ2.out) (fun k hk => by have := Option.some.inj hk; omega))
            have HO2 := Lib.hid hown2
            clear hgr2 hloc2 hown2 c0 c1 HOW HU
            go_wp2_with fail
            refine (joinOwn HO2.out J HJ.out (by omega) (by simp [stmW]; omega)).mono ?_
            rintro e w3 ⟨r, rfl, hr, hb3⟩
            have HR := Lib.hid hr
            have hrn := ba_size hr
            have hrs := bigJ hrn (by omega)
            have HB3 := Lib.hid (HB2.out.trans (hb3.mono HB2.out.size))
            clear hr hb3 HO2
            go_wp2_with fail
            refine (writeString_any w1.heap.size w1.heap.size _ _ _ (HI.out.belowG HB3.out) (by rw [ba_app_size, hrn, List.length_append]; show _ + (J.length + 1) ≤ _; omega) (Nat.le_trans hzr HB3.out.size)).mono ?_
            rintro e w4 ⟨rfl, hI4, hb4⟩
            have HI4 : Hid (IsB w1.heap.size w1.heap.size (x.affixes.flatMap affT ++ (x.stems.take (j + 1)).flatMap stmT) w4) := Lib.hid (by
              rw [flat_snoc _ _ _ hlt, ← join_stmW, HJ.out, ← HR.out]
              simpa using hI4)
            have HB4 : Hid (Below w1.heap.size w1 w4) := Lib.hid ((HB.out.trans (HB3.out.mono hzr)).trans hb4)
            clear hI4 hb4
            go_wp2
            go_roundw
            case rel => exact ⟨j + 1, by omega, by go_num, HI4, HB4⟩
            case measure => simp [intOf]; omega
          · obtain rfl : j = x.stems.length := by omega
            go_wp2_with fail
            refine (Tryd.Builder_String_any w1.heap.size w1.heap.size _ _ HI.out hzr).mono ?_
            rintro e w2 ⟨rfl, hb2⟩
            have HB2 : Hid (Below w1.heap.size w1 w2) := Lib.hid (HB.out.trans (by first | exact hb2 | exact hb2.mono hzr | (subst hb2; exact Below.refl _ _)))
            clear hb2
            go_wp2
            go_ret
            exact ⟨ret_str (by rw [gtV_yes Hg.out]; first | rfl | (rw [flat_all]; rfl)), HB1.out.trans (HB2.out.mono HB1.out.size)⟩
end Go.Proofs.YtgefgdkejenhnaaDoor
