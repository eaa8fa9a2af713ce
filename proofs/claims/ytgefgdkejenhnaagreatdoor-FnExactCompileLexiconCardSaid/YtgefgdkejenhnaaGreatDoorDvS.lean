/- The derived words and the derivations of the reference. No condition but the readings. -/
import Derived.Test.YtgefgdkejenhnaaGreatDoorDvW
import Derived.Test.YtgefgdkejenhnaaGreatDoorIn
import Derived.Test.YtgefgdkejenhnaaGreatDoorWoc
set_option linter.unusedSimpArgs false
namespace Go.Proofs.YtgefgdkejenhnaaGreatDoor
open Go.RowKit
theorem WordPost.split {l : List AffD} {s : ByteArray} {ns : List ByteArray} {e : Ending} (h : WordPost l s ns e) : ∃ t c, e = .returned (.tuple #[.string t, .int .i64 c]) ∧ t = (wordV l s ns).1 ∧ c = (wordV l s ns).2 := ⟨_, _, h, rfl, rfl⟩
attribute [local irreducible] Calls
theorem l04Word_is {x : GraD} {s t : ByteArray} {c : Int} {names : List ByteArray} {g : Nat} {s1 s2 v : Value} (ht : (wordV x.affixes s names).1 = t) (hc : (wordV x.affixes s names).2 = c) (w : World) (hx : GraBox w g s1 s2 x) (hok : GraOk x) (hs : isLong s = true) (hn : Strs w v names) (hin : ∀ n ∈ names, hasB x.affixes n = true) :
    Calls Tryz.prog 70 #[.pointer (some ⟨g, 0, none⟩), .string s, v] w fun e w' => e = .returned (.tuple #[.string t, .int .i64 c]) ∧ Below w.heap.size w w' := by
  subst ht hc
  exact l04Word_any g s1 v x.affixes s names w hx.c0 hx.a hok.1 hs hn hin
set_option maxHeartbeats 8000000 in
set_option maxRecDepth 20000 in
theorem l04Derived_any (g : Nat) (s1 s2 : Value) (x : GraD) (w : World) (hx : GraBox w g s1 s2 x) (hok : GraOk x) :
    Calls Tryz.prog 37 #[.pointer (some ⟨g, 0, none⟩)] w fun e w' => ∃ (gg cap : Nat) (out : List ByteArray), e = .returned (.slice (some ⟨gg, 0, none⟩) out.length cap) ∧ OwnS w' w.heap.size (.slice (some ⟨gg, 0, none⟩) out.length cap) out ∧ WrdTo ((derL x).map Prod.snd) out ∧ Below w.heap.size w w' := by
  obtain ⟨a1, k1, rfl, hl1, hk1, -⟩ := hx.a.shape
  obtain ⟨a2, k2, rfl, hl2, hk2, hcs2⟩ := hx.s.shape
  unfold maxLen at hk1 hk2
  have HX := Lib.hid hx
  have HOK := Lib.hid hok
  have HC2 := Lib.hid hcs2
  have hn30 := hok.2.2.2
  have HO0 := Lib.hid (OwnS.made w w.heap.size (Nat.le_refl _))
  have HB0 := Lib.hid ((Below.refl w.heap.size w).alloc (Nat.le_refl _) (.cells #[] 9))
  clear hx hok hcs2
  go_enter Tryz.func37, Tryz.ntmps37
  go_wp2
  go_loopw [3, 4] (fun o i wr => ∃ (j gg cap : Nat) (out : List ByteArray), j ≤ x.stems.length ∧ i = .int .i64 (j : Int) ∧ o = .slice (some ⟨gg, 0, none⟩) out.length cap ∧ Hid (OwnS wr w.heap.size (.slice (some ⟨gg, 0, none⟩) out.length cap) out) ∧ Hid (WrdTo ((derTo x j 0).map Prod.snd) out) ∧ Hid (Below w.heap.size w wr)) (fun _ i _ => x.stems.length - (intOf i).toNat)
  case atStart => exact ⟨0, w.heap.size, 0, [], by omega, rfl, rfl, HO0, Lib.hid (by rw [derTo_zero]; exact WrdTo.start), HB0⟩
  case round =>
    obtain ⟨i, gg, cap, out, hi, rfl, rfl, HO, HWr, HB⟩ := hrel
    have hg1 := cell_below HB.out HX.out.c1
    by_cases hlt : i < x.stems.length
    · obtain ⟨b2, o2, u, rfl, e0, e1, hwl, hu⟩ := HC2.out i hlt
      obtain ⟨ua, uc, rfl, hul, huc, -⟩ := hu.shape
      obtain ⟨hu12, huh, hund⟩ := stem_uses HOK.out hlt
      have e0 := cell_below HB.out e0
      have e1 := cell_below HB.out e1
      have HU := Lib.hid (hu.below HB.out)
      have hlen := HWr.out.len
      unfold maxLen at huc
      clear hu
      go_wp2_with fail
      refine (l04Ways_any _ x.stems[i].uses _ HU.out hu12 hund).mono ?_
      rintro e w1 ⟨g1, c1, q1, rfl, hw1, hb1⟩
      obtain ⟨ns, hns⟩ : ∃ ns, ns = waysL x.stems[i].uses := ⟨_, rfl⟩
      rw [← hns] at hw1 ⊢
      have HNS := Lib.hid hns
      have hns3 : ns.length ≤ 300 := by rw [hns]; exact waysTo_le hu12 _ _
      have HW1 := Lib.hid hw1
      have HO1 := Lib.hid (HO.out.below hb1)
      have HB1 := Lib.hid (HB.out.trans (hb1.mono HB.out.size))
      have hg1 := cell_below hb1 hg1
      have e0 := cell_below hb1 e0
      have HBW := Lib.hid (Below.refl w1.heap.size w1)
      have hsw : w.heap.size ≤ wr.heap.size := HB.out.size
      clear hw1 hb1 hns HU e1 hund
      go_wp2
      go_loopw [3, 6] (fun o i' wr2 => ∃ (k gg cap : Nat) (out : List ByteArray), k ≤ ns.length ∧ i' = .int .i64 (k : Int) ∧ o = .slice (some ⟨gg, 0, none⟩) out.length cap ∧ Hid (OwnS wr2 w.heap.size (.slice (some ⟨gg, 0, none⟩) out.length cap) out) ∧ Hid (WrdTo ((derTo x i k).map Prod.snd) out) ∧ Hid (Below w1.heap.size w1 wr2)) (fun _ i' _ => ns.length - (intOf i').toNat)
      case atStart => exact ⟨0, gg, cap, out, by omega, rfl, rfl, HO1, HWr, HBW⟩
      case round =>
        obtain ⟨k, gg, cap, out, hk, rfl, rfl, HO, HWr, HB2⟩ := hrel
        have hg1 := cell_below HB2.out hg1
        have e0 := cell_below HB2.out e0
        have hlen := HWr.out.len
        have HBn := Lib.hid (HB1.out.trans (HB2.out.mono HB1.out.size))
        by_cases hkl : k < ns.length
        · by_cases h200 : out.length ≤ 200
          · have h200I : ((out.length : Nat) : Int) ≤ 200 := by omega
            obtain ⟨gx, ex, hcx⟩ := (HW1.out.below HB2.out).cell hkl
            obtain rfl : g1 = gx := by injection ex with ex; injection ex
            have hkl2 : k < (waysL x.stems[i].uses).length := by rw [← HNS.out]; exact hkl
            have hnk : ns[k] = (waysL x.stems[i].uses)[k] := by simp [HNS.out]
            have hmem := waysTo_mem (u := x.stems[i].uses) (i := x.stems[i].uses.length) (k := 0) (x := ns[k]) (by rw [hnk]; exact List.getElem_mem _)
            have HST := Lib.hid ((HW1.out.below HB2.out).inn.strs hkl (by have := hmem.1; unfold maxLen; omega) (fun s hs => by
              have := huh s (hmem.2 s hs)
              obtain ⟨j, hj, he, -⟩ := hasB_at this
              rw [← he]
              have := (HX.out.a.2 x.affixes[j] (List.getElem_mem _)).n
              exact this))
            have HIN := Lib.hid (fun n hn => huh n (hmem.2 n hn))
            have hn2 := hmem.1
            have hlw : isLong x.stems[i].word = true := by
              have := HOK.out.2.1.1 i hlt
              simp only [stemB, Bool.and_eq_true] at this
              exact this.2
            have HLW := Lib.hid hlw
            have HXr := Lib.hid (HX.out.below HBn.out)
            have hkI : (k : Int) < (ns.length : Int) := by omega
            have hiI : (i : Int) < (x.stems.length : Int) := by omega
            obtain ⟨t, ht⟩ : ∃ t, (wordV x.affixes x.stems[i].word ns[k]).1 = t := ⟨_, rfl⟩
            obtain ⟨cd, hcd⟩ : ∃ c, (wordV x.affixes x.stems[i].word ns[k]).2 = c := ⟨_, rfl⟩
            have HTC := Lib.hid (And.intro ht hcd)
            clear ex hmem hlw ht hcd hnk
            go_wp2
            go_region_held3 (fun w' => w'.cell? ⟨g, 1, none⟩ = some (.slice (some ⟨b2, o2, none⟩) x.stems.length k2) ∧ w'.cell? ⟨b2, o2 + i * 2, none⟩ = some (.string x.stems[i].word) ∧ w'.cell? ⟨g1, k, none⟩ = some (.slice (some ⟨q1 k, 0, none⟩) ns[k].length ns[k].length) ∧ Below wr.heap.size wr w')
              (first | exact ⟨hg1, e0, hcx, (Below.refl _ _).drew⟩ | exact keepC hbk (by assumption) fun h => keepC hbk h fun h => keepC hbk h fun h => keepE hbk h)
              (first
                | (go_at_call 70; refine (l04Word_is HTC.out.1 HTC.out.2 _ ((fun (h : _ ∧ _ ∧ _ ∧ Below wr.heap.size wr _) => HXr.out.below h.2.2.2) (by assumption)) HOK.out HLW.out ((fun (h : _ ∧ _ ∧ _ ∧ Below wr.heap.size wr _) => HST.out.read.below h.2.2.2) (by assumption)) HIN.out).mono ?_; rintro e w3 ⟨rfl, hbk⟩))
            have hb3 := (by assumption : _ ∧ _ ∧ _ ∧ Below wr.heap.size wr w3).2.2.2
            have HB3 := Lib.hid (HB2.out.trans (hb3.mono HB2.out.size))
            have HO3 := Lib.hid (HO.out.below hb3)
            clear hb3 hbk hg1 e0 hcx
            by_cases hz : cd = 0
            · subst hz
              go_wp2_with fail
              refine (insertG_any w.heap.size gg cap out t _ (by omega) (HB1.out.trans (HB3.out.mono HB1.out.size)).size HO3.out).mono ?_
              rintro e w4 ⟨out2, g4, cap4, rfl, hins, hown4, hb4⟩
              have HB4 := Lib.hid (HB3.out.trans (hb4.mono HB3.out.size))
              have HO4 := Lib.hid hown4
              have HW4 : Hid (WrdTo ((derTo x i (k + 1)).map Prod.snd) out2) := Lib.hid (by
                have e1 := HTC.out.1
                have e2 := HTC.out.2
                have hns := HNS.out
                subst hns
                rw [derTo_hit hlt hkl2 e2, List.map_append, List.map_cons, List.map_nil, e1]
                exact HWr.out.put h200 hins)
              clear hins hown4 hb4
              go_wp2
              go_roundw
              case rel => exact ⟨k + 1, g4, cap4, out2, by omega, by go_num, rfl, HO4, HW4, HB4⟩
              case measure => simp [intOf]; omega
            · have hzq : (cd == 0) = false := by rw [beq_eq_false_iff_ne]; exact hz
              have HW4 : Hid (WrdTo ((derTo x i (k + 1)).map Prod.snd) out) := Lib.hid (by
                have e2 := HTC.out.2
                have hns := HNS.out
                subst hns
                rw [derTo_skip hlt hkl2 (by rw [e2]; exact hz)]
                exact HWr.out)
              go_wp2
              go_roundw
              case rel => exact ⟨k + 1, gg, cap, out, by omega, by go_num, rfl, HO3, HW4, HB3⟩
              case measure => simp [intOf]; omega
          · have h200I : ¬ ((out.length : Nat) : Int) ≤ 200 := by omega
            go_wp2
            go_roundw
            case rel => exact ⟨i + 1, gg, cap, out, by omega, by go_num, rfl, HO, Lib.hid (HWr.out.full h200 (fun y hy => by
              obtain ⟨d, hd, rfl⟩ := List.mem_map.1 hy
              exact List.mem_map.2 ⟨d, derTo_end hlt d hd, rfl⟩)), HBn⟩
            case measure => simp [intOf]; omega
        · obtain rfl : k = ns.length := by omega
          have HWr2 : Hid (WrdTo ((derTo x (i + 1) 0).map Prod.snd) out) := Lib.hid (by rw [derTo_next hlt, ← HNS.out]; exact HWr.out)
          go_wp2
          go_roundw
          case rel => exact ⟨i + 1, gg, cap, out, by omega, by go_num, rfl, HO, HWr2, HBn⟩
          case measure => simp [intOf]; omega
    · obtain rfl : i = x.stems.length := by omega
      go_wp2
      go_ret
      exact ⟨gg, cap, out, rfl, HO.out, HWr.out, HB.out⟩
end Go.Proofs.YtgefgdkejenhnaaGreatDoor
