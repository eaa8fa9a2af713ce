/- AnagramsOf of both sides: the groups lie in a map of slices. Conditions: the readings; the limit of the word. -/
import Derived.Test.YthpjinfkagllfaaAgL
import Derived.Test.YthpjinfkagllfaaC
import Derived.Test.YthpjinfkagllfaaT
import Derived.Maps.StringElems
namespace Go.Proofs.Ythpjinfkagllfaa
open Go.RowKit
theorem word_bits {s : ByteArray} (h : isWord s = true) : tileAll s.data.toList = true ∧ s.size ≤ 12 := word_tiles h
theorem zeroStrs (w : World) : (zeroValue 22).run Try.prog w = .ok (.slice none 0 0) w := by kernel_rfl
theorem sortB_size (s : ByteArray) (h : isWord s = true) : (sortB s).size ≤ maxLen := by
  have h1 := (pileOf_perm (word_tiles h).1).length_eq
  have h2 := (word_tiles h).2
  have : (sortB s).size = s.data.toList.length := h1
  rw [this, Array.length_toList]
  show s.size ≤ maxLen
  unfold maxLen; omega
attribute [local irreducible] Calls
set_option maxHeartbeats 4000000 in
set_option maxRecDepth 100000 in
theorem implAnagramsOf_any (v : Value) (l : List ByteArray) (a : ByteArray) (w : World) (hv : LexR w v l) (ha : a.size ≤ 1048576) :
    Calls Try.prog 21 #[v, .string a] w fun e w' => ∃ v', e = .returned (.tuple #[v', .int .i64 (agE l a)]) ∧ StrsW w' w.heap.size w'.heap.size v' (agV l a) ∧ Below w.heap.size w w' := by
  obtain ⟨s, rfl, hs⟩ := hv
  have HS := Lib.hid hs
  obtain ⟨p, c, rfl, hl0, hcc, hcs⟩ := hs.shape
  unfold maxLen at hcc
  have hma : a.size ≤ maxLen := by unfold maxLen; omega
  have hb0 : Below w.heap.size w (w.alloc (.cells #[.slice p l.length c] 40)) := (Below.refl _ _).alloc (Nat.le_refl _) _
  have hs0 := hs.below hb0
  have hc0 := cell_newi w #[.slice p l.length c] 40 0 (.slice p l.length c) rfl
  have hmm := @run_makeMap Try.prog
  have K : Go.Maps.Keyed Try.prog 9 := Go.Maps.string_keyed Try.underlying9
  clear hs
  cases hlex : lexB l
  · have H := Lib.hid hlex
    clear hcs
    go_enter Try.func21, Try.ntmps21
    go_wp2_with fail
    refine (implValidLexicon_any _ l _ ⟨_, rfl, hs0⟩).mono ?_
    rw [hlex]
    rintro e w1 ⟨rfl, hb1⟩
    go_wp2
    go_ret2
    exact ⟨_, by rw [agE, H.out]; rfl, by rw [agV, H.out]; exact strs_nil _ _ _, hb0.trans (hb1.mono hb0.size)⟩
  · have H := Lib.hid hlex
    cases hA : isWord a
    · have HA := Lib.hid hA
      clear hcs
      go_enter Try.func21, Try.ntmps21
      go_wp2_with fail
      refine (implValidLexicon_any _ l _ ⟨_, rfl, hs0⟩).mono ?_
      rw [hlex]
      rintro e w1 ⟨rfl, hb1⟩
      have hbb := hb0.trans (hb1.mono hb0.size)
      go_wp2_with fail
      refine (implIsWord_any _ _ hma).mono ?_
      rw [hA]
      rintro e w2 ⟨rfl, hb2⟩
      go_wp2
      go_ret2
      exact ⟨_, by rw [agE, H.out, HA.out]; rfl, by rw [agV, H.out, HA.out]; exact strs_nil _ _ _, hbb.trans (hb2.mono hbb.size)⟩
    · have HA := Lib.hid hA
      have hl200 := lexB_len H.out
      go_enter Try.func21, Try.ntmps21
      go_wp2_with fail
      refine (implValidLexicon_any _ l _ ⟨_, rfl, hs0⟩).mono ?_
      rw [hlex]
      rintro e w1 ⟨rfl, hb1⟩
      have hbb := hb0.trans (hb1.mono hb0.size)
      have hc1 := cell_below hb1 hc0
      go_wp2_with fail
      refine (implIsWord_any _ _ hma).mono ?_
      rw [hA]
      rintro e w2 ⟨rfl, hb2⟩
      have HB2 := Lib.hid (hbb.trans (hb2.mono hbb.size))
      have hc2 := cell_below hb2 hc1
      have HM0 := Lib.hid (World.ownsMap_made (H := Value) w2 Try.prog 9 selfR)
      have hz2 := HB2.out.size
      have hc3 := cell_alloc (.map #[] 0) hc2
      clear hbb hb1 hb2 hc1 hc0 hs0 hb0 hlex hA
      go_wp2
      go_loopw [20] (fun i wr => ∃ (j : Nat) (D : DataW Value) (G : ByteArray → Value), j ≤ l.length ∧ i = .int .i64 (j : Int) ∧ wr.ownsMap Try.prog 9 selfR w2.heap.size j D ∧ Grp wr (w2.heap.size + 1) D G (l.take j) ∧ Below w.heap.size w wr ∧ w2.heap.size + 1 ≤ wr.heap.size) (fun i _ => l.length - (intOf i).toNat)
      case atStart => exact ⟨0, _, _, by omega, rfl, HM0.out, by simpa using Grp.start _ _, HB2.out.alloc hz2 _, by simp⟩
      case round =>
        clear HM0 hc3
        obtain ⟨j, D, G, hj, rfl, hm, hg, hb, hzr⟩ := hrel
        have HM := Lib.hid hm
        have HG := Lib.hid hg
        have HB := Lib.hid hb
        have hbs := hb.size
        clear hm hg
        by_cases hlt : j < l.length
        · obtain ⟨b1, o1, rfl, h1, -⟩ := hcs j hlt
          have h1 := (hb.cell (cell_lt h1)).trans h1
          have hlong := lexB_long H.out l[j] (List.getElem_mem hlt)
          have HW := Lib.hid (isLong_word hlong)
          clear hcs hlong hb
          go_wp2_with fail
          refine (sorted_any l[j] _ (by have := (word_tiles HW.out).2; omega) (word_tiles HW.out).1).mono ?_
          rintro e w3 ⟨rfl, hb3⟩
          have hz3 : w2.heap.size + 1 ≤ w3.heap.size := Nat.le_trans hzr hb3.size
          have HM3 := Lib.hid (show w3.ownsMap Try.prog 9 selfR w2.heap.size j D from HM.out.kept (row := none) ⟨hb3.os, hb3.tape, hb3.output, hb3.size, fun j hj _ => hb3.block j hj⟩ (by simp))
          have HG3 := Lib.hid (HG.out.below hb3)
          have HB3 := Lib.hid (HB.out.trans (hb3.mono hbs))
          have hkey := Go.WideMaps.keyOf_string_mk Try.underlying9 (s := sortB l[j]) (sortB_size _ HW.out)
          obtain ⟨gv, ps, hlk, hvb⟩ := HM3.out.lookup K Try.underlying69 (z := .slice none 0 0) (zeroStrs _) (zd := .held (.slice none 0 0)) (zp := []) rfl hkey
          have hgv : gv = G (sortB l[j]) := by
            have := congrArg (fun o => o.map Prod.fst) hvb
            simp only [selfR, Option.map_some, HG3.out.get] at this
            injection this with this
            injection this
          subst hgv
          have Hlk := Lib.hid hlk
          have hown := HG3.out.own (sortB l[j])
          have hlen := HG3.out.len (sortB l[j])
          have hlk2 := hlk
          have Hkey := Lib.hid hkey
          change (Instr.lookup _ _ (.string ⟨(pileOf (cntOf l[j].data.toList)).toArray⟩) _).run _ _ = _ at hlk2
          clear hvb hb3 hlk hkey HG
          rw [List.length_take] at hlen
          generalize hGv : G (sortB l[j]) = gv at hlk2 hown
          go_wp2_with (first
            | (at_builtin; refine app_str_at rfl _ _ rfl (w2.heap.size + 1) gv _ rfl hown l[j] rfl (by omega) hz3 ?_; intro g cap w4 hown4 hbel4 hgr hloc; have HX := Lib.hid (And.intro hown4 (And.intro (hbel4 _ (Below.refl _ _)) (And.intro hgr hloc))); obtain ⟨w5, hup, hm5, hg5⟩ := (HM3.out.kept (w' := w4) (row := gv.ownBlock) hgr (fun e => by have := (World.ownsRow.lt hown _ e.symm).1; omega)).update K Try.underlying69 (by unfold maxLen; omega) Hkey.out (d := .held (.slice (some ⟨g, 0, none⟩) ((l.take j |>.filter fun x => decide (sortB x = sortB l[j])).length + 1) cap)) (ps := []) rfl; have HM5 := Lib.hid hm5; have HG5 := Lib.hid hg5; change (Instr.mapUpdate _ _ (.string ⟨(pileOf (cntOf l[j].data.toList)).toArray⟩) _).run _ _ = _ at hup; clear hm5 hg5 hown4 hbel4 hgr hloc)
            | fail)
          clear hup hlk2 hown
          subst hGv
          have hput := HG3.out.put (x := l[j]) (key := sortB l[j]) rfl HM3.out.isMap (Nat.lt_succ_self _) HX.out.1 HX.out.2.2.1 HG5.out HX.out.2.2.2
          rw [← List.take_succ_eq_append_getElem hlt] at hput
          have HPut := Lib.hid hput
          have hz5 : w2.heap.size + 1 ≤ w5.heap.size := Nat.le_trans hz3 (Nat.le_trans HX.out.2.2.1.size HG5.out.size)
          have HB5 := Lib.hid (show Below w.heap.size w w5 from
            ⟨HG5.out.os.trans (HX.out.2.2.1.os.trans HB3.out.os), HG5.out.tape.trans (HX.out.2.2.1.tape.trans HB3.out.tape), HG5.out.output.trans (HX.out.2.2.1.output.trans HB3.out.output), by omega, fun k hk => (HG5.out.block k (by have := HX.out.2.2.1.size; omega) (by intro e; cases e; omega)).trans ((HX.out.2.2.1.block k (by omega) (fun e => by have := (World.ownsRow.lt (HG3.out.own (sortB l[j])) _ e.symm).1; omega)).trans (HB3.out.block k hk))⟩)
          clear hput
          go_wp2
          go_roundw
          case rel => exact ⟨j + 1, _, _, by omega, by go_num, HM5.out, HPut.out, HB5.out, hz5⟩
          case measure => simp [intOf]; omega
        · obtain rfl : j = l.length := by omega
          clear hcs
          go_wp2_with fail
          refine (sorted_any a _ (by omega) (word_tiles HA.out).1).mono ?_
          rintro e w3 ⟨rfl, hb3⟩
          have HM3 := Lib.hid (show w3.ownsMap Try.prog 9 selfR w2.heap.size l.length D from HM.out.kept (row := none) ⟨hb3.os, hb3.tape, hb3.output, hb3.size, fun j hj _ => hb3.block j hj⟩ (by simp))
          have HG3 := Lib.hid (HG.out.below hb3)
          have HB3 := Lib.hid (HB.out.trans (hb3.mono hbs))
          have hkey := Go.WideMaps.keyOf_string_mk Try.underlying9 (s := sortB a) (sortB_size _ HA.out)
          obtain ⟨gv, ps, hlk, hvb⟩ := HM3.out.lookup K Try.underlying69 (z := .slice none 0 0) (zeroStrs _) (zd := .held (.slice none 0 0)) (zp := []) rfl hkey
          have hgv : gv = G (sortB a) := by
            have := congrArg (fun o => o.map Prod.fst) hvb
            simp only [selfR, Option.map_some, HG3.out.get] at this
            injection this with this
            injection this
          subst hgv
          have hown := HG3.out.own (sortB a)
          change (Instr.lookup _ _ (.string ⟨(pileOf (cntOf a.data.toList)).toArray⟩) _).run _ _ = _ at hlk
          have HO := Lib.hid (show OwnS w3 (w2.heap.size + 1) (G (sortB a)) (l.filter (agP a)) by rw [List.take_length] at hown; exact hown)
          generalize G (sortB a) = gv at hlk HO
          have hfl : (l.filter (agP a)).length ≤ 1048576 := by have := List.length_filter_le (agP a) l; omega
          have Hmax := Lib.hid (show ∀ s ∈ l.filter (agP a), s.size ≤ maxLen from fun s hs => HS.out.2 s (List.mem_filter.1 hs).1)
          clear hvb hb3 hkey hown
          go_wp2_with fail
          refine (clone_any gv (l.filter (agP a)) _ (HO.out.strs Hmax.out).read hfl).mono ?_
          rintro e w4 ⟨v', rfl, hv', hb4⟩
          have Hv' := Lib.hid hv'
          obtain ⟨va, vc, rfl, -, -⟩ := hv'.shape
          clear hv'
          go_wp2
          go_ret2
          exact ⟨_, by rw [agE, H.out, HA.out]; rfl, by rw [agV, H.out, HA.out]; exact (Hv'.out.strs Hmax.out).mono HB3.out.size (Nat.le_refl _), HB3.out.trans (hb4.mono HB3.out.size)⟩
set_option maxHeartbeats 4000000 in
set_option maxRecDepth 100000 in
theorem specAnagramsOf_any (v : Value) (l : List ByteArray) (a : ByteArray) (w : World) (hv : LexR w v l) (ha : a.size ≤ 1048576) :
    Calls Try.prog 19 #[v, .string a] w fun e w' => ∃ v', e = .returned (.tuple #[v', .int .i64 (agE l a)]) ∧ StrsW w' w.heap.size w'.heap.size v' (agV l a) ∧ Below w.heap.size w w' := by
  obtain ⟨s, rfl, hs⟩ := hv
  obtain ⟨p, c, rfl, hl, hc, hcs⟩ := hs.shape
  unfold maxLen at hc
  have hma : a.size ≤ maxLen := by unfold maxLen; omega
  have hb0 : Below w.heap.size w (w.alloc (.cells #[.slice p l.length c] 40)) := (Below.refl _ _).alloc (Nat.le_refl _) _
  have hs0 := hs.below hb0
  have hc0 := cell_newi w #[.slice p l.length c] 40 0 (.slice p l.length c) rfl
  have Hmax := Lib.hid hs.2
  cases hlex : lexB l
  · have H := Lib.hid hlex
    go_enter Try.func19, Try.ntmps19
    go_wp2_with fail
    refine (l05Ok_any w.heap.size _ l _ hc0 hs0).mono ?_
    rw [hlex]
    rintro e w1 ⟨rfl, q, rfl⟩
    go_wp2
    go_ret2
    exact ⟨_, by rw [agE, H.out]; rfl, by rw [agV, H.out]; exact strs_nil _ _ _, below_drewN hb0 _⟩
  · have H := Lib.hid hlex
    cases hA : isWord a
    · have HA := Lib.hid hA
      go_enter Try.func19, Try.ntmps19
      go_wp2_with fail
      refine (l05Ok_any w.heap.size _ l _ hc0 hs0).mono ?_
      rw [hlex]
      rintro e w1 ⟨rfl, q, hw1⟩
      have hb1 : Below w.heap.size w w1 := by rw [hw1]; exact below_drewN hb0 _
      clear hw1
      go_wp2_with fail
      refine (specIsWord_any _ _ hma).mono ?_
      rw [hA]
      rintro e w2 ⟨rfl, rfl⟩
      go_wp2
      go_ret2
      exact ⟨_, by rw [agE, H.out, HA.out]; rfl, by rw [agV, H.out, HA.out]; exact strs_nil _ _ _, hb1⟩
    · have HA := Lib.hid hA
      go_enter Try.func19, Try.ntmps19
      go_wp2_with fail
      refine (l05Ok_any w.heap.size _ l _ hc0 hs0).mono ?_
      rw [hlex]
      rintro e w1 ⟨rfl, q, hw0⟩
      have hb1 : Below w.heap.size w w1 := by rw [hw0]; exact below_drewN hb0 _
      have hc1 : w1.cell? ⟨w.heap.size, 0, none⟩ = some (.slice p l.length c) := by rw [hw0]; exact hc0
      have hl200 := lexB_len H.out
      clear hw0 hc0 hs0 hb0 hlex
      go_wp2_with fail
      refine (specIsWord_any _ _ hma).mono ?_
      rw [hA]
      rintro e w2 ⟨rfl, rfl⟩
      clear hA
      go_wp2
      have hown0 := OwnS.made w1 w1.heap.size (Nat.le_refl _)
      have hb2 : Below w1.heap.size w1 (w1.alloc (.cells #[] 9)) := (Below.refl _ _).alloc (Nat.le_refl _) _
      go_loopw [6, 7] (fun out i wr => ∃ j : Nat, j ≤ l.length ∧ i = .int .i64 (j : Int) ∧ OwnS wr w1.heap.size out ((l.take j).filter (agP a)) ∧ Below w1.heap.size w1 wr) (fun _ i _ => l.length - (intOf i).toNat)
      case atStart => exact ⟨0, by omega, rfl, by simpa using hown0, hb2⟩
      case round =>
        obtain ⟨j, hj, rfl, hown, hb⟩ := hrel
        clear hown0 hb2
        have hcr := cell_below hb hc1
        by_cases hlt : j < l.length
        · obtain ⟨b1, o1, rfl, hc2, hs1⟩ := hcs j hlt
          have hw1 : wr.cell? ⟨b1, o1 + j, none⟩ = some (.string l[j]) := cell_below hb (cell_below (hb1.mono (B' := w.heap.size) (Nat.le_refl _)) hc2)
          have hlong := lexB_long H.out l[j] (List.getElem_mem hlt)
          have HW := Lib.hid (isLong_word hlong)
          have HWt := Lib.hid (word_tiles HW.out)
          have H12 := (word_tiles HW.out).2
          clear hcs hc2 hlong hs1
          have hlen : ((l.take j).filter (agP a)).length ≤ 1048576 := by have := List.length_filter_le (agP a) (l.take j); simp at this; omega
          have Htk := Lib.hid (filter_take (agP a) l j hlt)
          go_wp2_with fail
          refine (l03Sort_any l[j] _ (by omega) HWt.out.1).mono ?_
          rintro e w2 ⟨he1, hb3⟩
          obtain ⟨k1, hk1⟩ : ∃ k1, k1 = sortB l[j] := ⟨_, rfl⟩
          change e = .returned (.string (sortB l[j])) at he1
          rw [← hk1] at he1
          subst he1
          have Hk1 := Lib.hid hk1
          clear hk1
          have hcr2 := cell_below hb3 hcr
          have hw2 := cell_below hb3 hw1
          have hown2 := hown.below hb3
          have hb4 := hb.trans (hb3.mono hb.size)
          clear hcr hw1 hown hb3 hb
          go_wp2_with fail
          refine (l03Sort_any a _ (by omega) (word_tiles HA.out).1).mono ?_
          rintro e w3 ⟨he1, hb3⟩
          obtain ⟨k2, hk2⟩ : ∃ k2, k2 = sortB a := ⟨_, rfl⟩
          change e = .returned (.string (sortB a)) at he1
          rw [← hk2] at he1
          subst he1
          have Hk2 := Lib.hid hk2
          clear hk2
          have hcr3 := cell_below hb3 hcr2
          have hw3 := cell_below hb3 hw2
          have hown3 := hown2.below hb3
          have hb5 := hb4.trans (hb3.mono hb4.size)
          have hbs := hb5.size
          clear hcr2 hw2 hown2 hb3 hb4 hc1
          cases hp : (k1.toList == k2.toList)
          · have Hp := Lib.hid (show agP a l[j] = false from decide_eq_false (by rw [← Hk1.out, ← Hk2.out]; exact bytes_ne_of hp))
            go_wp2
            go_roundw
            case rel => exact ⟨j + 1, by omega, by go_num, by rw [Htk.out, Hp.out]; simpa using hown3, hb5⟩
            case measure => simp [intOf]; omega
          · have Hp := Lib.hid (show agP a l[j] = true from decide_eq_true (by rw [← Hk1.out, ← Hk2.out]; exact bytes_eq_of hp))
            go_wp2_with (at_builtin; refine app_str rfl _ _ rfl w1.heap.size _ _ rfl hown3 l[j] rfl (by omega) hbs ?_; intro g cap w4 hown4 hbel4 _)
            go_roundw
            case rel => exact ⟨j + 1, by omega, by go_num, by rw [Htk.out, Hp.out]; simpa [OwnS] using hown4, hbel4 _ hb5⟩
            case measure => simp [intOf]; omega
        · go_wp2
          go_ret2
          obtain rfl : j = l.length := by omega
          rw [List.take_length] at hown
          exact ⟨_, by rw [agE, H.out, HA.out]; rfl, by rw [agV, H.out, HA.out]; exact (hown.strs (fun s hs => Hmax.out s (List.mem_filter.1 hs).1)).mono hb1.size (Nat.le_refl _), hb1.trans (hb.mono hb1.size)⟩
end Go.Proofs.Ythpjinfkagllfaa
