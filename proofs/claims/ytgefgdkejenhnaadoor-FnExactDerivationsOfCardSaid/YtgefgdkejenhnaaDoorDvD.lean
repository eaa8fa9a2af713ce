/- derivations of the program: all derivations of a valid grammar, told to a visitor. Conditions: the readings; MaxLen's cell; what the visitor keeps. -/
import Derived.Test.YtgefgdkejenhnaaDoorDvM
import Derived.Test.YtgefgdkejenhnaaDoorWoe
set_option linter.unusedSimpArgs false
namespace Go.Proofs.YtgefgdkejenhnaaDoor
open Go.RowKit
/-- A step that turns the blocks of O alone, and new ones. -/
structure FrO (O O' : Nat → Prop) (w w' : World) : Prop where
  os : w'.os = w.os
  tape : w'.tape = w.tape
  output : w'.output = w.output
  size : w.heap.size ≤ w'.heap.size
  block : ∀ k, k < w.heap.size → ¬ O k → w'.heap[k]? = w.heap[k]?
  low : ∀ k, O' k → O k ∨ w.heap.size ≤ k
theorem FrO.refl (O : Nat → Prop) (w : World) : FrO O O w w := ⟨rfl, rfl, rfl, Nat.le_refl _, fun _ _ _ => rfl, fun _ h => .inl h⟩
theorem FrO.trans {O O2 O3 : Nat → Prop} {a b c : World} (h : FrO O O2 a b) (k : FrO O2 O3 b c) : FrO O O3 a c :=
  ⟨k.os.trans h.os, k.tape.trans h.tape, k.output.trans h.output, Nat.le_trans h.size k.size,
    fun i hi ho => (k.block i (Nat.lt_of_lt_of_le hi h.size) (fun h2 => by rcases h.low i h2 with e | e; exact ho e; omega)).trans (h.block i hi ho),
    fun i hi => by
      rcases k.low i hi with e | e
      · exact h.low i e
      · exact .inr (Nat.le_trans h.size e)⟩
theorem FrO.of_below {O : Nat → Prop} {w w' : World} (h : Below w.heap.size w w') : FrO O O w w' := ⟨h.os, h.tape, h.output, h.size, fun k hk _ => h.block k hk, fun _ h => .inl h⟩
theorem FrO.below {O O' : Nat → Prop} {w w' : World} {B : Nat} (h : FrO O O' w w') (hB : B ≤ w.heap.size) (hO : ∀ k, O k → B ≤ k) : Below B w w' :=
  ⟨h.os, h.tape, h.output, h.size, fun k hk => h.block k (by omega) fun e => by have := hO k e; omega⟩
theorem FrO.cell {O O' : Nat → Prop} {w w' : World} (h : FrO O O' w w') {b o : Nat} {u : Value} (hb : b < w.heap.size) (hO : ¬ O b) (hc : w.cell? ⟨b, o, none⟩ = some u) : w'.cell? ⟨b, o, none⟩ = some u := by
  rw [← hc]
  simp only [World.cell?, h.block b hb hO]
theorem WaysW.fr {w w' : World} {B v q ns} {O O' : Nat → Prop} (h : WaysW w B v q ns) (hf : FrO O O' w w') (hO : ∀ k, O k → k < B) : WaysW w' B v q ns :=
  h.keep fun k hk hb => hf.block k hk fun e => by
    have h1 := hO k e
    rcases hb with hb | ⟨j, hj, rfl⟩
    · have := (World.ownsRow.lt h.own k hb).1; omega
    · have := h.inn.low j hj; omega
/-- What was told, and the block of each way. -/
abbrev Told := List ((StemD × ByteArray) × Nat)
/-- What a visitor keeps. -/
structure Visits (vis : Value) (I : Told → (Nat → Prop) → World → Prop) : Prop where
  low : ∀ L O w, I L O w → ∀ k, O k → k < w.heap.size
  keep : ∀ L O w w', I L O w → Below w.heap.size w w' → I L O w'
  call : ∃ (k : Nat) (cs : Array Value), vis = .func (.func k) #[] cs ∧ (∀ (args : Array Value) (w : World), (callFunc k args).run Tryd.prog w = .ok (.enter k args) w) ∧
    ∀ L O w s n t b, I L O w → w.heap[b]? = some (.cells (n.map Value.string).toArray 9 (0, 0)) → ¬ O b → (∀ d ∈ L, d.2 ≠ b) → n.length ≤ 2 → L.length ≤ 100000 → isLong t = true →
      Calls Tryd.prog k (#[.agg #[.string s, .slice (some ⟨b, 0, none⟩) n.length n.length], .string t] ++ cs) w fun e w' => e = .returned (.tuple #[]) ∧ ∃ O', I (L ++ [((⟨s, n⟩, t), b)]) O' w' ∧ FrO O O' w w'
theorem applied_is {x : GraD} {s t : ByteArray} {c : Int} {names : List ByteArray} {v v2 : Value} (ht : (wordV x.affixes s names).1 = t) (hc : (wordV x.affixes s names).2 = c) (w : World) (hv : GraR w v x) (hok : AffsOk x.affixes) (hs : isLong s = true) (hn : Strs w v2 names) (hin : ∀ n ∈ names, hasB x.affixes n = true) (hM : MaxL w) :
    Calls Tryd.prog 44 #[v, .string s, v2] w fun e w' => e = .returned (.tuple #[.string t, .int .i64 c]) ∧ Below w.heap.size w w' := by
  subst ht hc
  exact applied_any v x s v2 names w hv hok hs hn hin hM
/-- [][]string with one empty list, behind a block b0. -/
theorem WaysW.start_at (w : World) (N : Nat) (hN : w.heap.size = N) : WaysW ((w.alloc (.cells #[] 9)).alloc (.cells #[.slice (some ⟨N, 0, none⟩) 0 0] 35)) N (.slice (some ⟨N + 1, 0, none⟩) 1 1) (fun _ => N) [[]] := by
  subst hN; exact WaysW.start w w.heap.size (Nat.le_refl _)
attribute [local irreducible] Calls
set_option maxHeartbeats 16000000 in
set_option maxRecDepth 100000 in
theorem derivations_any {vis : Value} {I : Told → (Nat → Prop) → World → Prop} (V : Visits vis I) (v : Value) (x : GraD) (w0 w : World) (O0 : Nat → Prop) (hv : GraR w0 v x) (hb : Below w0.heap.size w0 w) (hg : GraOk x) (hM : MaxL w0) (hI : I [] O0 w) (hO : ∀ k, O0 k → w0.heap.size ≤ k) :
    Calls Tryd.prog 49 #[v, vis] w fun e w' => e = .returned (.tuple #[]) ∧ ∃ L O', I L O' w' ∧ L.map Prod.fst = derL x ∧ FrO O0 O' w w' ∧ ∀ d ∈ L, w.heap.size ≤ d.2 := by
  have HV0 := Lib.hid hv
  obtain ⟨s1, s2, rfl, ha, hs⟩ := hv
  obtain ⟨a1, k1, rfl, -, -, -⟩ := ha.shape
  obtain ⟨a2, k2, rfl, hl2, hk2, hcs2⟩ := hs.shape
  unfold maxLen at hk2
  obtain ⟨kf, cs, rfl, hcall, hvis⟩ := V.call
  have HVis := Lib.hid hvis
  have HVV := Lib.hid V
  have HOK := Lib.hid hg
  have HM0 := Lib.hid hM
  have HC2 := Lib.hid hcs2
  have HBw := Lib.hid hb
  have HOl := Lib.hid hO
  have hn30 := hg.2.2.2
  have hb0 : Below w.heap.size w (w.alloc (.cells #[.slice a1 x.affixes.length k1, .slice a2 x.stems.length k2] 31)) := (Below.refl _ _).alloc (Nat.le_refl _) _
  have g0 := cell_newi w #[.slice a1 x.affixes.length k1, .slice a2 x.stems.length k2] 31 0 (.slice a1 x.affixes.length k1) rfl
  have g1 := cell_newi w #[.slice a1 x.affixes.length k1, .slice a2 x.stems.length k2] 31 1 (.slice a2 x.stems.length k2) rfl
  have HI0 := Lib.hid (V.keep _ _ _ _ hI hb0)
  have HF0 : Hid (FrO O0 O0 w (w.alloc (.cells #[.slice a1 x.affixes.length k1, .slice a2 x.stems.length k2] 31))) := Lib.hid (.of_below hb0)
  have hOg : ¬ O0 w.heap.size := fun e => by have := V.low _ _ _ hI _ e; omega
  have hz1 : w.heap.size < (w.alloc (.cells #[.slice a1 x.affixes.length k1, .slice a2 x.stems.length k2] 31)).heap.size := by simp
  have HG0 : Hid (∀ (O : Nat → Prop) (W : World), FrO O0 O (w.alloc (.cells #[.slice a1 x.affixes.length k1, .slice a2 x.stems.length k2] 31)) W → W.cell? ⟨w.heap.size, 0, none⟩ = some (.slice a1 x.affixes.length k1) ∧ W.cell? ⟨w.heap.size, 1, none⟩ = some (.slice a2 x.stems.length k2)) := Lib.hid fun O W h => ⟨h.cell hz1 hOg g0, h.cell hz1 hOg g1⟩
  have HLow : Hid (∀ (O : Nat → Prop) (W : World), FrO O0 O (w.alloc (.cells #[.slice a1 x.affixes.length k1, .slice a2 x.stems.length k2] 31)) W → Below w0.heap.size w0 W) := Lib.hid fun O W h => (hb.trans (hb0.mono hb.size)).trans (h.below (by simp; have := hb.size; omega) hO)
  have HAL := Lib.hid ha.2
  clear ha hs hcs2 hg hM hb hO hvis hI hOg hz1 V
  go_enter Tryd.func49, Tryd.ntmps49
  go_wp2
  clear g0 g1
  generalize hw1 : w.alloc (.cells #[.slice a1 x.affixes.length k1, .slice a2 x.stems.length k2] 31) = w1 at HI0 HF0 HG0 HLow hb0 ⊢
  have HF1 : Hid (FrO O0 O0 w1 w1) := Lib.hid (.refl _ _)
  go_loopw [20] (fun i wr => ∃ (j : Nat) (L : Told) (O : Nat → Prop), j ≤ x.stems.length ∧ i = .int .i64 (j : Int) ∧ Hid (I L O wr) ∧ Hid (L.map Prod.fst = derTo x j 0) ∧ Hid (∀ d ∈ L, w.heap.size ≤ d.2 ∧ d.2 < wr.heap.size) ∧ Hid (FrO O0 O w1 wr)) (fun i _ => x.stems.length - (intOf i).toNat)
  case atStart => exact ⟨0, [], O0, by omega, rfl, HI0, Lib.hid (by rw [derTo_zero]; rfl), Lib.hid (by simp), HF1⟩
  case round =>
    obtain ⟨j, L, O, hj, rfl, HI, HL, HLb, HF⟩ := hrel
    obtain ⟨h0, h1⟩ := HG0.out _ _ HF.out
    by_cases hlt : j < x.stems.length
    · obtain ⟨b2, o2, u, rfl, e0, e1, hwl, hu⟩ := HC2.out j hlt
      obtain ⟨ua, uc, rfl, hul, huc, hcu⟩ := hu.shape
      obtain ⟨hu12, huh, hund⟩ := stem_uses HOK.out hlt
      have hblr := HLow.out _ _ HF.out
      have e0 := cell_below hblr e0
      have e1 := cell_below hblr e1
      have HCU := Lib.hid hcu
      have HUH := Lib.hid huh
      have HND := Lib.hid hund
      have hltI : (j : Int) < (x.stems.length : Int) := by omega
      obtain ⟨wd, hwd⟩ : ∃ wd, wd = x.stems[j].word := ⟨_, rfl⟩
      obtain ⟨us, hus⟩ : ∃ us, us = x.stems[j].uses := ⟨_, rfl⟩
      rw [← hwd] at e0 
      rw [← hus] at e1 HCU HUH HND hu12 hul
      unfold maxLen at huc
      have HWD := Lib.hid hwd
      have HUS := Lib.hid hus
      clear hu hcu huh hund hwl hblr hwd hus
      go_upto_region 4 with fail
      have hbs0 : Below wr.heap.size wr (wr.alloc (.cells #[.string wd, .slice ua us.length uc] 67)) := (Below.refl _ _).alloc (Nat.le_refl _) _
      have f0 := cell_newi wr #[.string wd, .slice ua us.length uc] 67 0 (.string wd) rfl
      have f1 := cell_newi wr #[.string wd, .slice ua us.length uc] 67 1 (.slice ua us.length uc) rfl
      have hNb : wr.heap.size < (wr.alloc (.cells #[.string wd, .slice ua us.length uc] 67)).heap.size := by simp
      have HOlt := Lib.hid (HVV.out.low _ _ _ HI.out)
      have HIb := Lib.hid (HVV.out.keep _ _ _ _ HI.out hbs0)
      have HFb := Lib.hid (HF.out.trans (FrO.of_below (O := O) hbs0))
      clear h0 h1 e0 e1
      generalize wr.alloc (.cells #[.string wd, .slice ua us.length uc] 67) = wb at f0 f1 hNb HIb HFb hbs0 ⊢
      obtain ⟨N, hN⟩ : ∃ N, N = wr.heap.size := ⟨_, rfl⟩
      rw [← hN] at f0 f1 hNb HOlt HLb ⊢
      have Hf0 := Lib.hid f0
      have Hf1 := Lib.hid f1
      have HLowb := Lib.hid (HLow.out _ _ HFb.out)
      obtain ⟨-, hb1⟩ := HG0.out _ _ HFb.out
      have HWs := Lib.hid (WaysW.start wb wb.heap.size (Nat.le_refl _))
      have HBs := Lib.hid (((Below.refl wb.heap.size wb).alloc (Nat.le_refl _) (.cells #[] 9)).alloc (by simp) (.cells #[.slice (some ⟨wb.heap.size, 0, none⟩) 0 0] 35))
      have f1s := cell_below HBs.out f1
      clear hN hbs0 f0 f1
      go_wp2
      clear f1s hb1
      go_loopw [6, 29] (fun out i wr => ∃ (k g cap : Nat) (q : Nat → Nat), k ≤ us.length ∧ i = .int .i64 (k : Int) ∧ out = .slice (some ⟨g, 0, none⟩) (waysA us k).length cap ∧ Hid (WaysW wr wb.heap.size (.slice (some ⟨g, 0, none⟩) (waysA us k).length cap) q (waysA us k)) ∧ Hid (Below wb.heap.size wb wr)) (fun _ i _ => us.length - (intOf i).toNat)
      case atStart => exact ⟨0, wb.heap.size + 1, 1, _, by omega, rfl, rfl, HWs, HBs⟩
      case round =>
        obtain ⟨k, g, cap, q, hk, rfl, rfl, HW, HB⟩ := hrel
        clear HWs HBs
        have hsz := HB.out.size
        by_cases hkl : k < us.length
        · obtain ⟨b3, o3, rfl, hc3, -⟩ := HCU.out k hkl
          have hc3 := cell_below (HLowb.out.trans (HB.out.mono HLowb.out.size)) hc3
          have hlA : (waysA us k).length ≤ 1000 := by rw [waysA_len hk]; omega
          have hown := HW.out
          have hkI : (k : Int) < (us.length : Int) := by omega
          go_wp2_with (first
            | (at_builtin; refine app_way rfl _ _ rfl wb.heap.size (.slice (some ⟨g, 0, none⟩) (waysA us k).length cap) q (waysA us k) rfl hown [us[k]] #[.string us[k]] rfl 1 rfl rfl (by omega) hsz ?_; intro g2 cap2 q2 w2 hw2 hb2)
            | fail)
          have HW2 : Hid (WaysW w2 wb.heap.size (.slice (some ⟨g2, 0, none⟩) (waysA us (k + 1)).length cap2) q2 (waysA us (k + 1))) := Lib.hid (by rw [waysA_succ hkl, List.length_append]; exact hw2)
          have HB2 := Lib.hid (HB.out.trans hb2)
          clear hw2 hb2 hown
          go_wp2
          go_roundw
          case rel => exact ⟨k + 1, g2, cap2, q2, by omega, by go_num, by rw [waysA_succ hkl, List.length_append]; rfl, HW2, HB2⟩
          case measure => simp [intOf]; omega
        · obtain rfl : k = us.length := by omega
          have f1 := cell_below HB.out Hf1.out
          have HW1 : Hid (WaysW wr wb.heap.size (.slice (some ⟨g, 0, none⟩) (waysTo us 0 0).length cap) q (waysTo us 0 0)) := Lib.hid (by rw [waysTo_zero]; exact HW.out)
          clear HW
          rw [← waysTo_zero]
          go_wp2
          clear f1
          go_loopw [6, 42] (fun out i wr => ∃ (k g cap : Nat) (q : Nat → Nat), k ≤ us.length ∧ i = .int .i64 (k : Int) ∧ out = .slice (some ⟨g, 0, none⟩) (waysTo us k 0).length cap ∧ Hid (WaysW wr wb.heap.size (.slice (some ⟨g, 0, none⟩) (waysTo us k 0).length cap) q (waysTo us k 0)) ∧ Hid (Below wb.heap.size wb wr)) (fun _ i _ => us.length - (intOf i).toNat)
          case atStart => exact ⟨0, g, cap, q, by omega, rfl, rfl, HW1, HB⟩
          case round =>
            clear HW1 HB hsz hk hkl
            obtain ⟨k, g, cap, q, hk, rfl, rfl, HW, HB⟩ := hrel
            have hsz := HB.out.size
            have f1 := cell_below HB.out Hf1.out
            by_cases hkl : k < us.length
            · obtain ⟨b3, o3, rfl, hc30, -⟩ := HCU.out k hkl
              have hc3 := cell_below (HLowb.out.trans (HB.out.mono HLowb.out.size)) hc30
              have hkI : (k : Int) < (us.length : Int) := by omega
              go_wp2
              clear f1 hc3
              go_loopw [6, 49] (fun out i wr => ∃ (m g cap : Nat) (q : Nat → Nat), m ≤ us.length ∧ i = .int .i64 (m : Int) ∧ out = .slice (some ⟨g, 0, none⟩) (waysTo us k m).length cap ∧ Hid (WaysW wr wb.heap.size (.slice (some ⟨g, 0, none⟩) (waysTo us k m).length cap) q (waysTo us k m)) ∧ Hid (Below wb.heap.size wb wr)) (fun _ i _ => us.length - (intOf i).toNat)
              case atStart => exact ⟨0, g, cap, q, by omega, rfl, rfl, HW, HB⟩
              case round =>
                clear HW HB hsz
                obtain ⟨m, g, cap, q, hm, rfl, rfl, HW, HB⟩ := hrel
                have hsz := HB.out.size
                by_cases hml : m < us.length
                · obtain ⟨b4, o4, e4, hc4, -⟩ := HCU.out m hml
                  cases e4
                  have hc4 := cell_below (HLowb.out.trans (HB.out.mono HLowb.out.size)) hc4
                  have hmI : (m : Int) < (us.length : Int) := by omega
                  by_cases hkm : k = m
                  · subst hkm
                    have hq : (us[k].toList == us[k].toList) = true := by simp
                    go_wp2
                    go_roundw
                    case rel => exact ⟨k + 1, g, cap, q, by omega, by go_num, by rw [waysTo_skip hkl hkl (by simp)], Lib.hid (by rw [waysTo_skip hkl hkl (by simp)]; exact HW.out), HB⟩
                    case measure => simp [intOf]; omega
                  · have hq := HND.out k m hkl hml hkm
                    have HE := Lib.hid (waysTo_hit hkl hml hq)
                    have hlA := waysTo_le hu12 k m
                    have hown := HW.out
                    go_wp2_with (first
                      | (at_builtin; refine app_way rfl _ _ rfl wb.heap.size (.slice (some ⟨g, 0, none⟩) (waysTo us k m).length cap) q (waysTo us k m) rfl hown [us[k], us[m]] #[.string us[k], .string us[m]] rfl 2 rfl rfl (by omega) hsz ?_; intro g2 cap2 q2 w2 hw2 hb2)
                      | fail)
                    have HW2 : Hid (WaysW w2 wb.heap.size (.slice (some ⟨g2, 0, none⟩) (waysTo us k (m + 1)).length cap2) q2 (waysTo us k (m + 1))) := Lib.hid (by rw [HE.out, List.length_append]; exact hw2)
                    have HB2 := Lib.hid (HB.out.trans hb2)
                    clear hw2 hb2 hown
                    go_wp2
                    go_roundw
                    case rel => exact ⟨m + 1, g2, cap2, q2, by omega, by go_num, by rw [HE.out, List.length_append]; rfl, HW2, HB2⟩
                    case measure => simp [intOf]; omega
                · obtain rfl : m = us.length := by omega
                  go_wp2
                  go_roundw
                  case rel => exact ⟨k + 1, g, cap, q, by omega, by go_num, by rw [waysTo_next hkl], Lib.hid (by rw [waysTo_next hkl]; exact HW.out), HB⟩
                  case measure => simp [intOf]; omega
            · obtain rfl : k = us.length := by omega
              clear f1 hk hkl
              obtain ⟨ns, hns⟩ : ∃ ns, ns = waysL us := ⟨_, rfl⟩
              have hns' : waysTo us us.length 0 = ns := hns.symm
              rw [hns'] at HW ⊢
              have HNS := Lib.hid hns
              have hns3 : ns.length ≤ 300 := by rw [hns]; exact waysTo_le hu12 _ _
              obtain ⟨w5, rfl⟩ : ∃ w5 : World, w5 = wr := ⟨_, rfl⟩
              have HI5 := Lib.hid (HVV.out.keep _ _ _ _ HIb.out (HB.out))
              have HF5 := Lib.hid (HFb.out.trans (FrO.of_below (O := O) HB.out))
              have HFs : Hid (FrO O O w5 w5) := Lib.hid (.refl _ _)
              clear hns hns'
              go_wp2
              go_loopw [66] (fun i wr => ∃ (k : Nat) (L' : Told) (O' : Nat → Prop), k ≤ ns.length ∧ i = .int .i64 (k : Int) ∧ Hid (I L' O' wr) ∧ Hid (L'.map Prod.fst = derTo x j k) ∧ Hid (∀ d ∈ L', (w.heap.size ≤ d.2 ∧ d.2 < N) ∨ ∃ m, m < k ∧ d.2 = q m) ∧ Hid (FrO O O' w5 wr)) (fun i _ => ns.length - (intOf i).toNat)
              case atStart => exact ⟨0, L, O, by omega, rfl, HI5, HL, Lib.hid (fun d hd => .inl (HLb.out d hd)), HFs⟩
              case round =>
                clear HI5 HFs HI HL HLb HF
                obtain ⟨k, L', O', hk, rfl, HI, HL, HLb, HF⟩ := hrel
                have HFr := Lib.hid (HF5.out.trans HF.out)
                obtain ⟨h0, h1⟩ := HG0.out _ _ HFr.out
                have hN5 : N < w5.heap.size := Nat.lt_of_lt_of_le hNb hsz
                have hON : ¬ O N := fun e => absurd (HOlt.out N e) (Nat.lt_irrefl N)
                have f0 := HF.out.cell hN5 hON (cell_below HB.out Hf0.out)
                have HWr := Lib.hid (HW.out.fr HF.out (fun k hk => Nat.lt_trans (HOlt.out k hk) hNb))
                have HQ := Lib.hid HW.out.inn
                by_cases hkl : k < ns.length
                · obtain ⟨gx, ex, hcx⟩ := HWr.out.cell hkl
                  obtain rfl : g = gx := by injection ex with ex; injection ex
                  have hkI : (k : Int) < (ns.length : Int) := by omega
                  have hmem := waysTo_mem (u := us) (i := us.length) (k := 0) (x := ns[k]) (by have h : ∀ y ∈ ns, y ∈ waysL us := fun y hy => HNS.out ▸ hy; exact h _ (List.getElem_mem _))
                  have HST := Lib.hid ((HWr.out.inn.strs hkl (by have := hmem.1; unfold maxLen; omega) (fun s hs => by
                    obtain ⟨i, hi, he, -⟩ := hasB_at (HUH.out s (hmem.2 s hs))
                    rw [← he]
                    exact (HAL.out x.affixes[i] (List.getElem_mem _)).n)).read)
                  have HIN := Lib.hid (fun n hn => HUH.out n (hmem.2 n hn))
                  have hn2 := hmem.1
                  have HLW : Hid (isLong wd = true) := Lib.hid (by
                    have := HOK.out.2.1.1 j hlt
                    simp only [stemB, Bool.and_eq_true] at this
                    rw [HWD.out]; exact this.2)
                  have HBr := Lib.hid (HLow.out _ _ HFr.out)
                  obtain ⟨t, ht⟩ : ∃ t, (wordV x.affixes wd ns[k]).1 = t := ⟨_, rfl⟩
                  obtain ⟨cd, hcd⟩ : ∃ c, (wordV x.affixes wd ns[k]).2 = c := ⟨_, rfl⟩
                  have HTC := Lib.hid (And.intro ht hcd)
                  have HKL : Hid (k < (waysL x.stems[j].uses).length) := Lib.hid (by rw [← HUS.out, ← HNS.out]; exact hkl)
                  clear ex hmem ht hcd hON
                  go_wp2_with fail
                  refine (applied_is HTC.out.1 HTC.out.2 _ (HV0.out.below HBr.out) HOK.out.1 HLW.out HST.out HIN.out (HM0.out.below HBr.out)).mono ?_
                  rintro e w6 ⟨rfl, hb6⟩
                  have f0 := cell_below hb6 f0
                  have HI6 := Lib.hid (HVV.out.keep _ _ _ _ HI.out hb6)
                  have HF6 := Lib.hid (HF.out.trans (FrO.of_below (O := O') hb6))
                  have HBlk := Lib.hid ((hb6.block _ (HWr.out.inn.lt hkl)).trans (HWr.out.inn.blk k hkl))
                  clear hb6 h0 h1 hcx
                  by_cases hz : cd = 0
                  · subst hz
                    have hqk := HQ.out.low k hkl
                    have hqk5 := HQ.out.lt hkl
                    have hnO : ¬ O' (q k) := fun e => by
                      rcases HF.out.low _ e with h | h
                      · have := HOlt.out _ h; omega
                      · omega
                    have hnL : ∀ d ∈ L', d.2 ≠ q k := fun d hd e => by
                      rcases HLb.out d hd with h | ⟨m, hm, h⟩
                      · omega
                      · have := HQ.out.inj m k (by omega) hkl (by rw [← h, e]); omega
                    have hLl : L'.length ≤ 100000 := by
                      have h1 := congrArg List.length HL.out
                      rw [List.length_map] at h1
                      have h2 := derTo_le HOK.out j k
                      omega
                    have htl : isLong t = true := by rw [← HTC.out.1]; exact wordV_long _ _ _ HLW.out HTC.out.2
                    have HVc := Lib.hid (HVis.out L' O' w6 wd ns[k] t (q k) HI6.out HBlk.out hnO hnL hn2 hLl htl)
                    clear hLl htl
                    clear hqk hqk5 hnO hnL
                    go_wp2_with fail
                    refine HVc.out.mono ?_
                    rintro e w7 ⟨rfl, O2, hI7, hF7⟩
                    have HI7 := Lib.hid hI7
                    have HF7 := Lib.hid (HF6.out.trans hF7)
                    have HL7 : Hid ((L' ++ [(((⟨wd, ns[k]⟩ : StemD), t), q k)]).map Prod.fst = derTo x j (k + 1)) := Lib.hid (by
                      have e1 := HTC.out.1
                      have e2 := HTC.out.2
                      have hns := HNS.out
                      have hus := HUS.out
                      have hwd := HWD.out
                      subst hwd hus hns
                      rw [derTo_hit hlt HKL.out e2, List.map_append, HL.out, e1]
                      rfl)
                    clear hI7 hF7 HVc
                    go_wp2
                    go_roundw
                    case rel => exact ⟨k + 1, _, O2, by omega, by go_num, HI7, HL7, Lib.hid (fun d hd => by
                      rcases List.mem_append.1 hd with h | h
                      · rcases HLb.out d h with h | ⟨m, hm, h⟩
                        · exact .inl h
                        · exact .inr ⟨m, by omega, h⟩
                      · rw [List.mem_singleton.1 h]
                        exact .inr ⟨k, by omega, rfl⟩), HF7⟩
                    case measure => simp [intOf]; omega
                  · have hzq : (cd == 0) = false := by rw [beq_eq_false_iff_ne]; exact hz
                    have HL7 : Hid (L'.map Prod.fst = derTo x j (k + 1)) := Lib.hid (by
                      have e2 := HTC.out.2
                      have hns := HNS.out
                      have hus := HUS.out
                      have hwd := HWD.out
                      subst hwd hus hns
                      rw [derTo_skip hlt HKL.out (by rw [e2]; exact hz)]
                      exact HL.out)
                    go_wp2
                    go_roundw
                    case rel => exact ⟨k + 1, L', O', by omega, by go_num, HI6, HL7, Lib.hid (fun d hd => by
                      rcases HLb.out d hd with h | ⟨m, hm, h⟩
                      · exact .inl h
                      · exact .inr ⟨m, by omega, h⟩), HF6⟩
                    case measure => simp [intOf]; omega
                · obtain rfl : k = ns.length := by omega
                  have hsz5 := HF.out.size
                  have HL7 : Hid (L'.map Prod.fst = derTo x (j + 1) 0) := Lib.hid (by
                    have hns := HNS.out
                    have hus := HUS.out
                    subst hus hns
                    rw [derTo_next hlt]; exact HL.out)
                  have hww := Nat.le_trans HF0.out.size HFb.out.size
                  have HLb7 : Hid (∀ d ∈ L', w.heap.size ≤ d.2 ∧ d.2 < wr.heap.size) := Lib.hid (fun d hd => by
                    rcases HLb.out d hd with h | ⟨m, hm, h⟩
                    · omega
                    · have := HQ.out.lt hm; have := HQ.out.low m hm; omega)
                  clear hww
                  clear f0 h0 h1
                  go_wp2
                  go_roundw
                  case rel => exact ⟨j + 1, L', O', by omega, by go_num, HI, HL7, HLb7, HFr⟩
                  case measure => simp [intOf]; omega
    · obtain rfl : j = x.stems.length := by omega
      have HE := HF0.out.trans HF.out
      go_wp2
      go_end0
      exact ⟨rfl, L, O, HI.out, HL.out, HE, fun d hd => (HLb.out d hd).1⟩
end Go.Proofs.YtgefgdkejenhnaaDoor
