/- ReadTiles of the program. Conditions: a text of at most 2^20 bytes; what the row lists (MaxLen's cell, the powers of ten, strconv's errors). -/
import Derived.Test.YtinmmbnlflmobaaGreatDoorTr
import Derived.Test.YtinmmbnlflmobaaGreatDoorTi
namespace Go.Proofs.YtinmmbnlflmobaaGreatDoor
open Go.RowKit
theorem cut_len (l : List UInt8) (c : UInt8) : (Lib.cut l [c]).1.length ≤ l.length ∧ (Lib.cut l [c]).2.1.length ≤ l.length := by
  unfold Lib.cut
  split
  · simp; omega
  · simp
theorem impl_head {a t1 : ByteArray} (h0 : 0 < a.size) (ht : t1.data.toList = a.data.toList.drop 1) : a.data.toList = a[0] :: t1.data.toList := by
  rw [ht]
  have := List.drop_eq_getElem_cons (l := a.data.toList) (i := 0) (by simpa using h0)
  exact this
theorem fold_stopA {f : TileD → List UInt8 → Option TileD} {l : List (List UInt8)} {j : Nat} {t x : TileD} {a : List UInt8} (ha : l[j]? = some a) (h : foldO f t (l.take j) = some x) (h2 : f x a = none) : foldO f t l = none := by
  obtain ⟨hj, rfl⟩ := List.getElem?_eq_some_iff.1 ha; exact fold_stop hj h h2
theorem fold_stepA {f : TileD → List UInt8 → Option TileD} {l : List (List UInt8)} {j : Nat} {t x x' : TileD} {a : List UInt8} (ha : l[j]? = some a) (h : foldO f t (l.take j) = some x) (h2 : f x a = some x') : foldO f t (l.take (j + 1)) = some x' := by
  obtain ⟨hj, rfl⟩ := List.getElem?_eq_some_iff.1 ha; exact fold_step hj h h2
theorem impl_q {x : TileD} {a q t1 : ByteArray} (h0 : 0 < a.size) (ht : t1.data.toList = a.data.toList.drop 1) (hq : q.data.toList = (Lib.cut t1.data.toList [120]).2.1) (h63 : a[0] = 63) :
    implStep x a.data.toList = some { x with blanks := rdN q } := by
  rw [impl_head h0 ht]
  unfold implStep rdN
  simp only [h63, if_true]
  rw [hq]
theorem impl_w {x : TileD} {a p q t1 l1 : ByteArray} (h0 : 0 < a.size) (ht : t1.data.toList = a.data.toList.drop 1) (hp : p.data.toList = (Lib.cut t1.data.toList [120]).1) (hq : q.data.toList = (Lib.cut t1.data.toList [120]).2.1)
    (hl : l1.data.toList = a.data.toList.take 1) (h63 : a[0] ≠ 63) :
    implStep x a.data.toList = if 26 < x.letters.size + 1 then none else some { letters := x.letters ++ l1, values := x.values ++ [rdN p], counts := x.counts ++ [rdN q], blanks := x.blanks } := by
  have e := impl_head h0 ht
  have el : l1 = ⟨#[a[0]]⟩ := by apply ba_inj; rw [hl, e]; rfl
  rw [e]
  unfold implStep rdN
  simp only [if_neg h63]
  rw [hp, hq, el]
attribute [local irreducible] Calls
set_option maxHeartbeats 16000000 in
set_option maxRecDepth 20000 in
theorem implReadTiles_any (s : ByteArray) (w : World) (hs : s.size ≤ 1048576) (hML : MaxL w) (hTab : TabP w) (hErr : ErrV w) :
    Calls Tryz.prog 8 #[.string s] w fun e w' => ∃ v', e = .returned (.tuple #[v', .bool (rtB s)]) ∧ TilX w' w.heap.size w'.heap.size v' (rtV s) ∧ Below w.heap.size w w' := by
  have hb0 : Below w.heap.size w ((w.alloc (.cells #[.string ⟨#[]⟩, .slice none 0 0, .slice none 0 0, .int .i64 0] 26)).alloc (.cells #[.string ⟨#[]⟩, .slice none 0 0, .slice none 0 0, .int .i64 0] 26)) := ((Below.refl _ _).alloc (Nat.le_refl _) _).alloc (by simp) _
  have r0 := heap2_0 w (.cells #[.string ⟨#[]⟩, .slice none 0 0, .slice none 0 0, .int .i64 0] 26) (.cells #[.string ⟨#[]⟩, .slice none 0 0, .slice none 0 0, .int .i64 0] 26)
  have r1 := heap2_1 w (.cells #[.string ⟨#[]⟩, .slice none 0 0, .slice none 0 0, .int .i64 0] 26) (.cells #[.string ⟨#[]⟩, .slice none 0 0, .slice none 0 0, .int .i64 0] 26)
  have HML := Lib.hid hML
  have HTab := Lib.hid hTab
  have HErr := Lib.hid hErr
  clear hML hTab hErr
  go_enter Tryz.func8, Tryz.ntmps8
  go_wp2_with fail
  refine (split_any s 32 _ hs (HML.out.below hb0)).mono ?_
  rintro e w1 ⟨v1, rfl, hv1, hb1⟩
  have hz1 : w.heap.size + 2 ≤ w1.heap.size := by have := hb1.size; simpa using this
  have hr1 := (hb1.block (w.heap.size) (by simp; omega)).trans r0
  have hg1 := (hb1.block (w.heap.size + 1) (by simp)).trans r1
  have HB1 := Lib.hid (hb0.trans (hb1.mono hb0.size))
  have HV := Lib.hid hv1
  have HR1 := Lib.hid hr1
  obtain ⟨L, hL⟩ : ∃ L, L = splitW 32 s := ⟨_, rfl⟩
  have hsm : ∀ p ∈ splitW 32 s, p.size ≤ s.size := fun p hp => splitW_part hp
  have hsp : splitC 32 s.data.toList = L.map (·.data.toList) := by rw [hL]; exact splitW_data 32 s
  have hll : L.length ≤ 1048577 := by rw [hL]; have := splitW_len 32 s; omega
  rw [← hL] at HV hsm
  rw [World.size_alloc, World.size_alloc] at HV
  obtain ⟨pa, pc, rfl, hl, hc, -⟩ := HV.out.read.shape
  unfold maxLen at hc
  have HSP := Lib.hid hsp
  have HSM := Lib.hid hsm
  have HT1 : Hid (OwnT w1 (w.heap.size + 1) emptyT (.slice none 0 0) (.slice none 0 0)) := Lib.hid ⟨hg1, OwnI.nil _ _, OwnI.nil _ _, .inl rfl, by simp [emptyT, ByteArray.size], rfl, rfl, I64.zero, by simp [emptyT], by simp [emptyT]⟩
  clear hv1 hb1 hL r0 r1 hb0 hr1 hg1 hsp hsm
  obtain ⟨g, hg⟩ : ∃ g, g = w.heap.size + 1 := ⟨_, rfl⟩
  rw [← hg] at HV HT1 ⊢
  have HG := Lib.hid hg
  have hgn : ¬ (w.heap.size = g) := by omega
  have hgn2 : ¬ (g = w.heap.size) := by omega
  clear hg
  go_wp2
  go_loopw [18] (fun i wr => ∃ (j : Nat) (x : TileD) (v1 v2 : Value), j ≤ L.length ∧ i = .int .i64 (j : Int) ∧ Hid (foldO implStep emptyT ((L.map (·.data.toList)).take j) = some x) ∧ x.letters.size ≤ 26 ∧ Hid (OwnT wr g x v1 v2) ∧ Hid (Behind v1 w1.heap.size) ∧ Hid (Behind v2 w1.heap.size) ∧ Hid (Kept g (g + 1) w1 wr)) (fun i _ => L.length - (intOf i).toNat)
  case atStart => exact ⟨0, emptyT, _, _, by omega, rfl, Lib.hid rfl, by simp [emptyT, ByteArray.size], HT1, Lib.hid (.inl rfl), Lib.hid (.inl rfl), Lib.hid (Kept.refl _ _ _)⟩
  case round =>
    obtain ⟨j, x, v1, v2, hj, rfl, Hf, hxs, HTr, HO1, HO2, HKr⟩ := hrel
    have hzr := HKr.out.size
    have HBr := Lib.hid (HB1.out.trans (HKr.out.below (by have := HG.out; omega) HB1.out.size))
    have HVr := Lib.hid (HV.out.kept HKr.out (.inr (Nat.le_refl _)))
    have HRr := Lib.hid ((HKr.out.block w.heap.size (by omega) (.inl (by have := HG.out; omega))).trans HR1.out)
    by_cases hlt : j < L.length
    · obtain ⟨pa', pc', e1, -, -, hcs⟩ := HVr.out.read.shape
      injection e1 with e1 e2 e3
      subst e1
      subst e3
      obtain ⟨pb, po, rfl, hcell, -⟩ := hcs j hlt
      have hltI : (j : Int) < (L.length : Int) := by omega
      have has : L[j].size ≤ 1048576 := Nat.le_trans (HSM.out _ (List.getElem_mem _)) hs
      obtain ⟨a, haE⟩ : ∃ a, a = L[j] := ⟨_, rfl⟩
      have HA := Lib.hid (show (L.map (·.data.toList))[j]? = some a.data.toList by rw [haE]; simp [hlt])
      rw [← haE] at hcell has
      clear hcs e2 haE
      by_cases ha : a.size = 0
      · have ha1 : a.toList = [] := by have := isEmpty_t ha; simpa using this
        have Hno := Lib.hid (rt_none (s := s) (readT_stop (fun _ H => impl_reads H) (by rw [HSP.out]; exact fold_stopA HA.out Hf.out (by rw [data_nil ha]; rfl))))
        have d0 : wr.cell? ⟨w.heap.size, 0, none⟩ = some (.string ⟨#[]⟩) := (box_cell (i := 0) HRr.out rfl).1
        have d1 : wr.cell? ⟨w.heap.size, 1, none⟩ = some (.slice none 0 0) := (box_cell (i := 1) HRr.out rfl).1
        have d2 : wr.cell? ⟨w.heap.size, 2, none⟩ = some (.slice none 0 0) := (box_cell (i := 2) HRr.out rfl).1
        have d3 : wr.cell? ⟨w.heap.size, 3, none⟩ = some (.int .i64 0) := (box_cell (i := 3) HRr.out rfl).1
        have z0 : wr.frozen? ⟨w.heap.size, 0, none⟩ = false := (box_cell (i := 0) HRr.out rfl).2
        have z1 : wr.frozen? ⟨w.heap.size, 1, none⟩ = false := (box_cell (i := 1) HRr.out rfl).2
        have z2 : wr.frozen? ⟨w.heap.size, 2, none⟩ = false := (box_cell (i := 2) HRr.out rfl).2
        have z3 : wr.frozen? ⟨w.heap.size, 3, none⟩ = false := (box_cell (i := 3) HRr.out rfl).2
        go_wp2
        have st := store4 HRr.out (.string ⟨#[]⟩) (.slice none 0 0) (.slice none 0 0) (.int .i64 0)
        refine bodyPost_ret (v := .tuple #[.agg #[.string ⟨#[]⟩, .slice none 0 0, .slice none 0 0, .int .i64 0], .bool false]) (results_cell_rowT (p := 2) (u := 3) (ty := 26) rfl _ _ w.heap.size _ _ _ _ rfl st.1 Tryz.underlying26 rfl infoTil) rfl ⟨_, by rw [Hno.out.2], ?_, HBr.out.trans (st.2.1.below (Nat.le_refl _) HBr.out.size)⟩
        rw [Hno.out.1]
        exact emptyT_X _ _ (by rw [st.2.2]; omega)
      · have ha1 : a.toList ≠ [] := by have := isEmpty_f ha; simpa using this
        have ha2 := isEmpty_f ha
        have ha0 : 1 ≤ a.size := by omega
        have haP : 0 < a.size := by omega
        have haI : (1 : Int) ≤ (a.size : Int) := by omega
        obtain ⟨t1, ht1⟩ : ∃ t1 : ByteArray, a.extract 1 a.size = t1 := ⟨_, rfl⟩
        have hts : t1.size ≤ 1048576 := by rw [← ht1]; simp; omega
        obtain ⟨l1, hl1⟩ : ∃ l1 : ByteArray, a.extract 0 1 = l1 := ⟨_, rfl⟩
        have hls : l1.size = 1 := by rw [← hl1]; simp; omega
        have HT1d := Lib.hid (show t1.data.toList = a.data.toList.drop 1 by rw [← ht1, ByteArray.data_extract, Array.toList_extract, List.extract_eq_take_drop, List.take_of_length_le (by rw [List.length_drop, ← size_data]; exact Nat.le_refl _)])
        have HL1d := Lib.hid (show l1.data.toList = a.data.toList.take 1 by rw [← hl1, ByteArray.data_extract, Array.toList_extract, List.extract_eq_take_drop]; simp)
        have hsum : (9223372036854775807 < x.letters.size + 1) = False := eq_false (by omega)
        obtain ⟨m, hm⟩ := HML.out.below HBr.out
        go_wp2_with fail
        refine (Tryz.strings_Cut t1 ⟨#[120]⟩ m _ (by omega) hm).mono ?_
        obtain ⟨p, hp⟩ : ∃ p, p = (⟨(Lib.cut t1.data.toList [120]).1.toArray⟩ : ByteArray) := ⟨_, rfl⟩
        obtain ⟨q, hq⟩ : ∃ q, q = (⟨(Lib.cut t1.data.toList [120]).2.1.toArray⟩ : ByteArray) := ⟨_, rfl⟩
        have hps : p.size ≤ 1048576 := by rw [hp]; have := (cut_len t1.data.toList 120).1; have e : t1.data.toList.length = t1.size := by simp
                                          show (Lib.cut t1.data.toList [120]).1.toArray.size ≤ _; simp; omega
        have hqs : q.size ≤ 1048576 := by rw [hq]; have := (cut_len t1.data.toList 120).2; have e : t1.data.toList.length = t1.size := by simp
                                          show (Lib.cut t1.data.toList [120]).2.1.toArray.size ≤ _; simp; omega
        rw [show (⟨#[120]⟩ : ByteArray).data.toList = [120] from rfl, ← hp, ← hq]
        have HP := Lib.hid (show p.data.toList = (Lib.cut t1.data.toList [120]).1 by rw [hp])
        have HQ := Lib.hid (show q.data.toList = (Lib.cut t1.data.toList [120]).2.1 by rw [hq])
        clear hp hq hm
        rintro e w2 ⟨rfl, nq, hw2⟩
        have hb2 : Below wr.heap.size wr w2 := by rw [hw2]; exact below_drewN (Below.refl _ _) _
        clear hw2
        go_wp2_with fail
        refine (implReadDecimal_any p _ hps (HTab.out.below (HBr.out.trans (hb2.mono HBr.out.size))) (HErr.out.below (HBr.out.trans (hb2.mono HBr.out.size)))).mono ?_
        rintro e w3 ⟨rfl, hb3⟩
        have hb3 := hb2.trans (hb3.mono hb2.size)
        clear hb2
        go_wp2_with fail
        refine (implReadDecimal_any q _ hqs (HTab.out.below (HBr.out.trans (hb3.mono HBr.out.size))) (HErr.out.below (HBr.out.trans (hb3.mono HBr.out.size)))).mono ?_
        rintro e w4 ⟨rfl, hb4⟩
        have hb4 := hb3.trans (hb4.mono hb3.size)
        clear hb3
        have HB4 := Lib.hid hb4
        have HT4 := Lib.hid (HTr.out.below hb4)
        have HBw4 := Lib.hid (HBr.out.trans (hb4.mono HBr.out.size))
        have hz4 := hb4.size
        obtain ⟨c0, c1, c2, c3⟩ := HT4.out.cells
        have z0 := HT4.out.frozen 0
        have z1 := HT4.out.frozen 1
        have z2 := HT4.out.frozen 2
        have z3 := HT4.out.frozen 3
        clear hb4 ht1
        cases hd : ((a[0].toNat : Int) == 63)
        · have h63 : a[0] ≠ 63 := by intro e; rw [e] at hd; simp at hd
          have HW := Lib.hid (impl_w (x := x) haP HT1d.out HP.out HQ.out HL1d.out h63)
          clear h63
          go_wp2_with fail
          go_region
          have b4 := box_set (i := 0) (u := .string (x.letters ++ l1)) HT4.out.box
          have p1 := own_set HT4.out.o1 (i := 0) (.string (x.letters ++ l1)) (Nat.lt_succ_self g)
          have p2 := own_set HT4.out.o2 (i := 0) (.string (x.letters ++ l1)) (Nat.lt_succ_self g)
          have kk4 : KeepT g v1 v2 w4 (w4.setCell ⟨g, 0, none⟩ (.string (x.letters ++ l1))).drew := KeepT.set.trans (KeepT.of_below ((Below.refl _ _).drew))
          have lt4 : g + 1 ≤ (w4.setCell ⟨g, 0, none⟩ (.string (x.letters ++ l1))).drew.heap.size := Nat.le_trans HT4.out.lt kk4.size
          have KK := Lib.hid ((KeepT.of_below HB4.out).trans kk4)
          have b4 : (w4.setCell ⟨g, 0, none⟩ (.string (x.letters ++ l1))).drew.heap[g]? = some (.cells #[.string (x.letters ++ l1), v1, v2, .int .i64 x.blanks] 26 (0, 0)) := b4
          have q1 : OwnI (w4.setCell ⟨g, 0, none⟩ (.string (x.letters ++ l1))).drew (g + 1) v1 x.values := OwnI.below (w := w4.setCell ⟨g, 0, none⟩ (.string (x.letters ++ l1))) p1 ((Below.refl _ _).drew)
          have q2 : OwnI (w4.setCell ⟨g, 0, none⟩ (.string (x.letters ++ l1))).drew (g + 1) v2 x.counts := OwnI.below (w := w4.setCell ⟨g, 0, none⟩ (.string (x.letters ++ l1))) p2 ((Below.refl _ _).drew)
          clear p1 p2 c0 c1 c2 c3 z0 z1 z2 z3 kk4
          generalize (w4.setCell ⟨g, 0, none⟩ (.string (x.letters ++ l1))).drew = wy at b4 KK lt4 q1 q2 ⊢
          obtain ⟨c0, z0⟩ := box_cell (i := 0) (v := .string (x.letters ++ l1)) b4 rfl
          obtain ⟨c1, z1⟩ := box_cell (i := 1) (v := v1) b4 rfl
          obtain ⟨c2, z2⟩ := box_cell (i := 2) (v := v2) b4 rfl
          have hvl := Lib.hid HT4.out.lv
          have hcl := Lib.hid HT4.out.lc
          have hvn : x.values.length ≤ 4398046511104 := by have := hvl.out; omega
          have hcn : x.counts.length ≤ 4398046511104 := by have := hcl.out; omega
          have Q1 := Lib.hid q1
          have Q2 := Lib.hid q2
          have B4 := Lib.hid b4
          have hv1n : v1.ownBlock ≠ some g := by intro e; have := (World.ownsRow.lt q1 g e).1; omega
          have hv2n : v2.ownBlock ≠ some g := by intro e; have := (World.ownsRow.lt q2 g e).1; omega
          have hne : v2.ownBlock = none ∨ v2.ownBlock ≠ v1.ownBlock := by
            rcases HT4.out.ne with h | h
            · by_cases h2 : v2.ownBlock = none
              · exact .inl h2
              · right; rw [h]; exact h2
            · exact .inr (Ne.symm h)
          have HNE := Lib.hid hne
          have HV1 := Lib.hid hv1n
          have HV2 := Lib.hid hv2n
          have hlsz : (x.letters ++ l1).size = x.letters.size + 1 := by simp [hls]
          clear q1 q2 b4 hne hv1n hv2n hl1
          by_cases h26 : x.letters.size = 26
          · have hcmp : (26 : Int) < ((x.letters.size + 1 : Nat) : Int) := by omega
            have hcmp2 : (26 : Int) < (x.letters.size : Int) + 1 := by omega
            have Hst := Lib.hid (show implStep x a.data.toList = none by rw [HW.out, if_pos (by omega)])
            go_wp2_with (first
              | (at_builtin; refine app_int rfl _ _ rfl (g + 1) v1 x.values rfl Q1.out (rdN p) _ rfl rfl hvn lt4 ?_; intro g5 cap5 w5 hown5 hg5 hloc5; have b5 := (hg5.block g lt4 (by intro e; exact HV1.out e.symm)).trans B4.out; obtain ⟨e0, y0⟩ := box_cell (i := 0) (v := .string (x.letters ++ l1)) b5 rfl; obtain ⟨e1, y1⟩ := box_cell (i := 1) (v := v1) b5 rfl; obtain ⟨e2, y2⟩ := box_cell (i := 2) (v := v2) b5 rfl; have B6 := Lib.hid (box_set (i := 1) (u := .slice (some ⟨g5, 0, none⟩) (x.values.length + 1) cap5) b5); have Q6 : Hid (OwnI (w5.setCell ⟨g, 1, none⟩ (.slice (some ⟨g5, 0, none⟩) (x.values.length + 1) cap5)) (g + 1) v2 x.counts) := Lib.hid (own_set (World.ownsRow.kept Q2.out hg5 HNE.out) (i := 1) (.slice (some ⟨g5, 0, none⟩) (x.values.length + 1) cap5) (Nat.lt_succ_self g)); have lt6 : g + 1 ≤ (w5.setCell ⟨g, 1, none⟩ (.slice (some ⟨g5, 0, none⟩) (x.values.length + 1) cap5)).heap.size := (Nat.le_trans lt4 (Nat.le_trans hg5.size (by simp [World.setCell]))))
              | (at_builtin; go_loud (refine app_int rfl _ _ rfl (g + 1) v2 x.counts rfl Q6.out (rdN q) w5.heap.size (by simp [World.setCell]) rfl hcn lt6 ?_; intro g7 cap7 w7 hown7 hg7 hloc7; have b7 := (hg7.block g lt6 (by intro e; exact HV2.out e.symm)).trans B6.out; obtain ⟨f0, x0⟩ := box_cell (i := 0) (v := .string (x.letters ++ l1)) b7 rfl; obtain ⟨f2, x2⟩ := box_cell (i := 2) (v := v2) b7 rfl; have K8 := Lib.hid (((((KK.out.trans (KeepT.grown1 hg5)).trans KeepT.set).trans (KeepT.grown2 hg7)).trans (KeepT.set (i := 2) (u := .slice (some ⟨g7, 0, none⟩) (x.counts.length + 1) cap7))).kept HKr.out HO1.out HO2.out); have K7 := ((((KK.out.trans (KeepT.grown1 hg5)).trans KeepT.set).trans (KeepT.grown2 hg7)).kept HKr.out HO1.out HO2.out); have HR7 := Lib.hid ((K7.block w.heap.size (by omega) (.inl (by have := HG.out; omega))).trans HR1.out); clear K7; have d0 : w7.cell? ⟨w.heap.size, 0, none⟩ = some (.string ⟨#[]⟩) := (box_cell (i := 0) HR7.out rfl).1; have d1 : w7.cell? ⟨w.heap.size, 1, none⟩ = some (.slice none 0 0) := (box_cell (i := 1) HR7.out rfl).1; have d2 : w7.cell? ⟨w.heap.size, 2, none⟩ = some (.slice none 0 0) := (box_cell (i := 2) HR7.out rfl).1; have d3 : w7.cell? ⟨w.heap.size, 3, none⟩ = some (.int .i64 0) := (box_cell (i := 3) HR7.out rfl).1; have z0 : w7.frozen? ⟨w.heap.size, 0, none⟩ = false := (box_cell (i := 0) HR7.out rfl).2; have z1 : w7.frozen? ⟨w.heap.size, 1, none⟩ = false := (box_cell (i := 1) HR7.out rfl).2; have z2 : w7.frozen? ⟨w.heap.size, 2, none⟩ = false := (box_cell (i := 2) HR7.out rfl).2; have z3 : w7.frozen? ⟨w.heap.size, 3, none⟩ = false := (box_cell (i := 3) HR7.out rfl).2; have B7 := Lib.hid b7; have G7 := Lib.hid hg7; have L7 := Lib.hid hloc7; have O7 := Lib.hid hown7; clear b7 hg7 hloc7 hown7))
              | fail)
            have HR8 := Lib.hid ((K8.out.block w.heap.size (by omega) (.inl (by have := HG.out; omega))).trans HR1.out)
            have HB8 := Lib.hid (HB1.out.trans (K8.out.below (by have := HG.out; omega) HB1.out.size))
            have hz8 := K8.out.size
            have Hno := Lib.hid (rt_none (s := s) (readT_stop (fun _ H => impl_reads H) (by rw [HSP.out]; exact fold_stopA HA.out Hf.out Hst.out)))
            have st := store4 HR8.out (.string ⟨#[]⟩) (.slice none 0 0) (.slice none 0 0) (.int .i64 0)
            refine bodyPost_ret (v := .tuple #[.agg #[.string ⟨#[]⟩, .slice none 0 0, .slice none 0 0, .int .i64 0], .bool false]) (results_cell_rowT (p := 2) (u := 3) (ty := 26) rfl _ _ w.heap.size _ _ _ _ rfl st.1 Tryz.underlying26 rfl infoTil) rfl ⟨_, by rw [Hno.out.2], ?_, HB8.out.trans (st.2.1.below (Nat.le_refl _) HB8.out.size)⟩
            rw [Hno.out.1]
            exact emptyT_X _ _ (by rw [st.2.2]; omega)
          · have hcmp : ¬ ((26 : Int) < ((x.letters.size + 1 : Nat) : Int)) := by omega
            have hcmp2 : ¬ ((26 : Int) < (x.letters.size : Int) + 1) := by omega
            have HJn := Lib.hid (fold_stepA HA.out Hf.out (show implStep x a.data.toList = some { letters := x.letters ++ l1, values := x.values ++ [rdN p], counts := x.counts ++ [rdN q], blanks := x.blanks } by rw [HW.out, if_neg (by omega)]))
            go_wp2_with (first
              | (at_builtin; refine app_int rfl _ _ rfl (g + 1) v1 x.values rfl Q1.out (rdN p) _ rfl rfl hvn lt4 ?_; intro g5 cap5 w5 hown5 hg5 hloc5; have b5 := (hg5.block g lt4 (by intro e; exact HV1.out e.symm)).trans B4.out; obtain ⟨e0, y0⟩ := box_cell (i := 0) (v := .string (x.letters ++ l1)) b5 rfl; obtain ⟨e1, y1⟩ := box_cell (i := 1) (v := v1) b5 rfl; obtain ⟨e2, y2⟩ := box_cell (i := 2) (v := v2) b5 rfl; have B6 := Lib.hid (box_set (i := 1) (u := .slice (some ⟨g5, 0, none⟩) (x.values.length + 1) cap5) b5); have Q6 : Hid (OwnI (w5.setCell ⟨g, 1, none⟩ (.slice (some ⟨g5, 0, none⟩) (x.values.length + 1) cap5)) (g + 1) v2 x.counts) := Lib.hid (own_set (World.ownsRow.kept Q2.out hg5 HNE.out) (i := 1) (.slice (some ⟨g5, 0, none⟩) (x.values.length + 1) cap5) (Nat.lt_succ_self g)); have lt6 : g + 1 ≤ (w5.setCell ⟨g, 1, none⟩ (.slice (some ⟨g5, 0, none⟩) (x.values.length + 1) cap5)).heap.size := (Nat.le_trans lt4 (Nat.le_trans hg5.size (by simp [World.setCell]))))
              | (at_builtin; go_loud (refine app_int rfl _ _ rfl (g + 1) v2 x.counts rfl Q6.out (rdN q) w5.heap.size (by simp [World.setCell]) rfl hcn lt6 ?_; intro g7 cap7 w7 hown7 hg7 hloc7; have b7 := (hg7.block g lt6 (by intro e; exact HV2.out e.symm)).trans B6.out; obtain ⟨f0, x0⟩ := box_cell (i := 0) (v := .string (x.letters ++ l1)) b7 rfl; obtain ⟨f2, x2⟩ := box_cell (i := 2) (v := v2) b7 rfl; have K8 := Lib.hid (((((KK.out.trans (KeepT.grown1 hg5)).trans KeepT.set).trans (KeepT.grown2 hg7)).trans (KeepT.set (i := 2) (u := .slice (some ⟨g7, 0, none⟩) (x.counts.length + 1) cap7))).kept HKr.out HO1.out HO2.out); have B7 := Lib.hid b7; have G7 := Lib.hid hg7; have L7 := Lib.hid hloc7; have O7 := Lib.hid hown7; clear b7 hg7 hloc7 hown7))
              | fail)
            obtain ⟨k1, k2, k3, k4⟩ := word_done (w := wr) KK.out Q1.out Q2.out HT4.out.ne hown5 hg5 hloc5 O7.out G7.out L7.out B7.out HT4.out.kb HT4.out.kv HT4.out.kc (rdN_I p) (rdN_I q) (by rw [hlsz, hvl.out]) (by rw [hlsz, hcl.out])
            have HT8 := Lib.hid (k4 (by omega))
            have HN1 := Lib.hid (HO1.out.next (v' := .slice (some ⟨g5, 0, none⟩) (x.values.length + 1) cap5) (k2.imp id fun h => ⟨g5, rfl, h⟩) hzr)
            have HN2 := Lib.hid (HO2.out.next (v' := .slice (some ⟨g7, 0, none⟩) (x.counts.length + 1) cap7) (k3.imp id fun h => ⟨g7, rfl, h⟩) hzr)
            have hl27 : (x.letters ++ l1).size ≤ 26 := by omega
            clear k1 k2 k3 k4
            go_roundw
            case rel => exact ⟨j + 1, _, _, _, by omega, by go_num, HJn, hl27, HT8, HN1, HN2, K8⟩
            case measure => simp [intOf]; omega
        · have h63 : a[0] = 63 := by apply UInt8.toNat_inj.1; have := eq_of_beq hd; simp; omega
          have HW := Lib.hid (impl_q (x := x) haP HT1d.out HQ.out h63)
          have HJn := Lib.hid (fold_stepA HA.out Hf.out HW.out)
          clear h63
          go_wp2
          go_roundw
          case rel => exact ⟨j + 1, { x with blanks := rdN q }, v1, v2, by omega, by go_num, HJn, hxs, Lib.hid (HT4.out.setBlanks (rdN_I q)), HO1, HO2, Lib.hid (((KeepT.of_below HB4.out).trans KeepT.set).kept HKr.out HO1.out HO2.out)⟩
          case measure => simp [intOf]; omega
    · obtain rfl : j = L.length := by omega
      have hfull : foldO implStep emptyT (splitC 32 s.data.toList) = some x := by
        have h := Hf.out
        rw [List.take_of_length_le (by simp)] at h
        rw [HSP.out]; exact h
      have HE := Lib.hid (readT_end (fun _ H => impl_reads H) hfull)
      obtain ⟨a, c, rfl, -, -⟩ := HTr.out.o1.shape
      obtain ⟨b, d, rfl, -, -⟩ := HTr.out.o2.shape
      obtain ⟨-, -, hbx⟩ := HTr.out.tilbox
      have HBX := Lib.hid hbx
      obtain ⟨k0, k1, k2, k3, -, -, -, -⟩ := hbx
      clear hfull Hf
      go_wp2_with fail
      refine (implValidTiles_any _ x _ HBX.out.read).mono ?_
      cases hT : tilB x
      all_goals
        have HT := Lib.hid hT
        clear hT
        rintro e w2 ⟨rfl, hb2⟩
        have HB2 := Lib.hid (HBr.out.trans (hb2.mono HBr.out.size))
        have HR2 := Lib.hid ((hb2.block w.heap.size (by omega)).trans HRr.out)
        have HX2 := Lib.hid (HBX.out.below hb2)
        have HTT2 := Lib.hid (HTr.out.below hb2)
        have hz2 := hb2.size
        clear hb2 k0 k1 k2 k3
      · have Hno := Lib.hid (rt_none (by rw [HE.out, if_neg (by rw [HT.out]; simp)]))
        have d0 : w2.cell? ⟨w.heap.size, 0, none⟩ = some (.string ⟨#[]⟩) := (box_cell (i := 0) HR2.out rfl).1
        have d1 : w2.cell? ⟨w.heap.size, 1, none⟩ = some (.slice none 0 0) := (box_cell (i := 1) HR2.out rfl).1
        have d2 : w2.cell? ⟨w.heap.size, 2, none⟩ = some (.slice none 0 0) := (box_cell (i := 2) HR2.out rfl).1
        have d3 : w2.cell? ⟨w.heap.size, 3, none⟩ = some (.int .i64 0) := (box_cell (i := 3) HR2.out rfl).1
        have z0 : w2.frozen? ⟨w.heap.size, 0, none⟩ = false := (box_cell (i := 0) HR2.out rfl).2
        have z1 : w2.frozen? ⟨w.heap.size, 1, none⟩ = false := (box_cell (i := 1) HR2.out rfl).2
        have z2 : w2.frozen? ⟨w.heap.size, 2, none⟩ = false := (box_cell (i := 2) HR2.out rfl).2
        have z3 : w2.frozen? ⟨w.heap.size, 3, none⟩ = false := (box_cell (i := 3) HR2.out rfl).2
        go_wp2
        have st := store4 HR2.out (.string ⟨#[]⟩) (.slice none 0 0) (.slice none 0 0) (.int .i64 0)
        refine bodyPost_ret (v := .tuple #[.agg #[.string ⟨#[]⟩, .slice none 0 0, .slice none 0 0, .int .i64 0], .bool false]) (results_cell_rowT (p := 2) (u := 3) (ty := 26) rfl _ _ w.heap.size _ _ _ _ rfl st.1 Tryz.underlying26 rfl infoTil) rfl ⟨_, by rw [Hno.out.2], ?_, HB2.out.trans (st.2.1.below (Nat.le_refl _) HB2.out.size)⟩
        rw [Hno.out.1]
        exact emptyT_X _ _ (by rw [st.2.2]; omega)
      · have HP := Lib.hid (tilB_P HT.out)
        obtain ⟨r, hr⟩ : ∃ r, r = (⟨(textL x).toArray⟩ : ByteArray) := ⟨_, rfl⟩
        obtain ⟨k0, k1, k2, k3, -, -, -, -⟩ := HX2.out
        go_wp2_with fail
        refine (implTilesText_any _ x _ HX2.out.read (HTab.out.below HB2.out)).mono ?_
        rw [textV_yes HT.out, ← hr]
        rintro e w3 ⟨rfl, hb3⟩
        have HB3 := Lib.hid (HB2.out.trans (hb3.mono HB2.out.size))
        have HR3 := Lib.hid ((hb3.block w.heap.size (by omega)).trans HR2.out)
        clear k0 k1 k2 k3
        obtain ⟨k0, k1, k2, k3, -, -, -, -⟩ := HX2.out.below hb3
        have HTT3 := Lib.hid (HTT2.out.below hb3)
        have hz3 := hb3.size
        clear hb3
        have d0 : w3.cell? ⟨w.heap.size, 0, none⟩ = some (.string ⟨#[]⟩) := (box_cell (i := 0) HR3.out rfl).1
        have d1 : w3.cell? ⟨w.heap.size, 1, none⟩ = some (.slice none 0 0) := (box_cell (i := 1) HR3.out rfl).1
        have d2 : w3.cell? ⟨w.heap.size, 2, none⟩ = some (.slice none 0 0) := (box_cell (i := 2) HR3.out rfl).1
        have d3 : w3.cell? ⟨w.heap.size, 3, none⟩ = some (.int .i64 0) := (box_cell (i := 3) HR3.out rfl).1
        have z0 : w3.frozen? ⟨w.heap.size, 0, none⟩ = false := (box_cell (i := 0) HR3.out rfl).2
        have z1 : w3.frozen? ⟨w.heap.size, 1, none⟩ = false := (box_cell (i := 1) HR3.out rfl).2
        have z2 : w3.frozen? ⟨w.heap.size, 2, none⟩ = false := (box_cell (i := 2) HR3.out rfl).2
        have z3 : w3.frozen? ⟨w.heap.size, 3, none⟩ = false := (box_cell (i := 3) HR3.out rfl).2
        by_cases hrs : r = s
        · subst hrs
          have hq : (r.toList != r.toList) = false := by simp
          have Hyes := Lib.hid (rt_some (s := r) (x := x) (by rw [HE.out, if_pos ⟨HT.out, by rw [hr]⟩]))
          clear hr
          go_wp2
          have st := store4 HR3.out (.string x.letters) (.slice a x.values.length c) (.slice b x.counts.length d) (.int .i64 x.blanks)
          refine bodyPost_ret (v := .tuple #[.agg #[.string x.letters, .slice a x.values.length c, .slice b x.counts.length d, .int .i64 x.blanks], .bool true]) (results_cell_rowT (p := 2) (u := 3) (ty := 26) rfl _ _ w.heap.size _ _ _ _ rfl st.1 Tryz.underlying26 rfl infoTil) rfl ⟨_, by rw [Hyes.out.2], ?_, HB3.out.trans (st.2.1.below (Nat.le_refl _) HB3.out.size)⟩
          rw [Hyes.out.1]
          exact ((HTT3.out.tilX (lo := w.heap.size + 1) (by have := HG.out; omega) rfl (.inr (by intro e; have h1 := HP.out.lv; have h2 := HP.out.n1; rw [e] at h1; simp at h1; omega))).kept st.2.1 (.inr (Nat.le_refl _))).mono (Nat.le_succ _) (by rw [st.2.2]; exact Nat.le_refl _)
        · have hq : (r.toList == s.toList) = false := by
            rw [beq_eq_false_iff_ne, Lib.toList_data, Lib.toList_data]; intro e; exact hrs (ba_inj e)
          have Hno := Lib.hid (rt_none (s := s) (by rw [HE.out, if_neg (by rintro ⟨-, e⟩; exact hrs (hr.trans (by rw [e])))]))
          clear hr hrs
          go_wp2
          have st := store4 HR3.out (.string ⟨#[]⟩) (.slice none 0 0) (.slice none 0 0) (.int .i64 0)
          refine bodyPost_ret (v := .tuple #[.agg #[.string ⟨#[]⟩, .slice none 0 0, .slice none 0 0, .int .i64 0], .bool false]) (results_cell_rowT (p := 2) (u := 3) (ty := 26) rfl _ _ w.heap.size _ _ _ _ rfl st.1 Tryz.underlying26 rfl infoTil) rfl ⟨_, by rw [Hno.out.2], ?_, HB3.out.trans (st.2.1.below (Nat.le_refl _) HB3.out.size)⟩
          rw [Hno.out.1]
          exact emptyT_X _ _ (by rw [st.2.2]; omega)
end Go.Proofs.YtinmmbnlflmobaaGreatDoor
