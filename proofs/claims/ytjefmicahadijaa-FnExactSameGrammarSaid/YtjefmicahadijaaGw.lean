/- SameGrammar of both sides. No condition but the readings. -/
import Derived.Test.YtjefmicahadijaaGs
import Derived.Test.YtjefmicahadijaaLa
namespace Go.Proofs.Ytjefmicahadijaa
open Go.RowKit
attribute [local irreducible] Calls
set_option maxHeartbeats 2000000 in
set_option maxRecDepth 20000 in
theorem sameStem_any (x y : StemD) (u v : Value) (w : World) (hu : Strs w u x.uses) (hv : Strs w v y.uses) :
    Calls Try.prog 16 #[.agg #[.string x.word, u], .agg #[.string y.word, v]] w fun e w' => e = .returned (.bool (decide (x = y))) ∧ Below w.heap.size w w' := by
  have hb0 : Below w.heap.size w ((w.alloc (.cells #[.string x.word, u] 40)).alloc (.cells #[.string y.word, v] 40)) := ((Below.refl _ _).alloc (Nat.le_refl _) _).alloc (by simp) _
  cases h0 : (x.word.toList == y.word.toList)
  · have H0 := Lib.hid h0
    go_enter Try.func16, Try.ntmps16
    go_wp2
    go_ret
    exact ⟨ret_bool (by rw [stemD_eq, decide_eq_false (bytes_ne_of H0.out)]; rfl), hb0⟩
  · have E0 := Lib.hid (bytes_eq_of h0)
    go_enter Try.func16, Try.ntmps16
    go_wp2_with fail
    refine (equalStr_any u v x.uses y.uses _ (hu.below hb0) (hv.below hb0)).mono ?_
    rintro e w1 ⟨rfl, q, hw1⟩
    have hbb : Below w.heap.size w w1 := by rw [hw1]; exact below_drewN hb0 _
    clear hw1
    cases hd : decide (x.uses = y.uses)
    · have HD := Lib.hid hd
      go_wp2
      go_ret
      exact ⟨ret_bool (by rw [stemD_eq, decide_eq_true E0.out, Bool.true_and, HD.out]), hbb⟩
    · have HD := Lib.hid hd
      go_wp2
      go_ret
      exact ⟨ret_bool (by rw [stemD_eq, decide_eq_true E0.out, Bool.true_and, HD.out]), hbb⟩
set_option maxHeartbeats 4000000 in
set_option maxRecDepth 20000 in
theorem equalFunc_any (a b : Value) (l1 l2 : List StemD) (w : World) (ha : Stems w a l1) (hb : Stems w b l2) :
    Calls Try.prog 15 #[a, b, .func (.func 16) #[] #[]] w fun e w' => e = .returned (.bool (decide (l1 = l2))) ∧ Below w.heap.size w w' := by
  obtain ⟨a1, c1, rfl, h1, h1', h1c⟩ := ha.shape
  obtain ⟨a2, c2, rfl, h2, h2', h2c⟩ := hb.shape
  clear ha hb
  unfold maxLen at h1' h2'
  by_cases hlen : l1.length = l2.length
  · have Hlen := Lib.hid hlen
    have hl0 : ((l1.length : Int) != (l2.length : Int)) = false := by rw [bne_eq_false_iff_eq]; omega
    clear hlen
    go_enter Try.func15, Try.ntmps15
    go_wp2
    go_loopw [17] (fun i wr => ∃ k : Nat, k ≤ l1.length ∧ i = .int .i64 k ∧ Hid (l1.take k = l2.take k) ∧ Hid (Below w.heap.size w wr)) (fun i _ => l1.length - (intOf i).toNat)
    case atStart => exact ⟨0, Nat.zero_le _, rfl, Lib.hid rfl, Lib.hid (Below.refl _ _)⟩
    case round =>
      obtain ⟨k, hk, rfl, Heq, HB⟩ := hrel
      by_cases hlt : k < l1.length
      · have hlt2 : k < l2.length := by have := Hlen.out; omega
        obtain ⟨b1, o1, u1, rfl, k0, k1, -, hu1⟩ := h1c k hlt
        obtain ⟨b2, o2, u2, rfl, k2, k3, -, hu2⟩ := h2c k hlt2
        obtain ⟨ua, uc, rfl, -, -, -⟩ := hu1.shape
        obtain ⟨va, vc, rfl, -, -, -⟩ := hu2.shape
        have HU1 := Lib.hid (hu1.below HB.out)
        have HU2 := Lib.hid (hu2.below HB.out)
        have f0 := cell_below HB.out k0
        have f1 := cell_below HB.out k1
        have f2 := cell_below HB.out k2
        have f3 := cell_below HB.out k3
        have hI0 : (0 : Int) ≤ (k : Int) := by omega
        have hI1 : (k : Int) < (l1.length : Int) := by omega
        have hI2 : (k : Int) < (l2.length : Int) := by omega
        have hb2 : Below wr.heap.size wr ((wr.alloc (.cells #[.string l1[k].word, .slice ua l1[k].uses.length uc] 40)).alloc (.cells #[.string l2[k].word, .slice va l2[k].uses.length vc] 40)) := ((Below.refl _ _).alloc (Nat.le_refl _) _).alloc (by simp) _
        have g2 := cell_alloc (.cells #[.string l1[k].word, .slice ua l1[k].uses.length uc] 40) f2
        have g3 := cell_alloc (.cells #[.string l1[k].word, .slice ua l1[k].uses.length uc] 40) f3
        have HB2 := Lib.hid (HB.out.trans (hb2.mono HB.out.size))
        have HUa := Lib.hid (HU1.out.below hb2)
        have HUb := Lib.hid (HU2.out.below hb2)
        have hcl := Try.call16
        clear k0 k1 k2 k3 h1c h2c hu1 hu2 hb2
        go_wp2_with fail
        refine (sameStem_any l1[k] l2[k] (.slice ua l1[k].uses.length uc) (.slice va l2[k].uses.length vc) _ HUa.out HUb.out).mono ?_
        rintro e w2 ⟨rfl, hb3⟩
        have HB3 := Lib.hid (HB2.out.trans (hb3.mono HB2.out.size))
        clear hb3 f0 f1 f2 f3 g2 g3
        cases hd : decide (l1[k] = l2[k])
        · have Hd := Lib.hid hd
          go_wp2
          go_ret
          exact ⟨ret_bool (by rw [eq_comm, decide_eq_false_iff_not]; rintro rfl; have := Hd.out; simp at this), HB3.out⟩
        · have Hd := Lib.hid (of_decide_eq_true hd)
          go_wp2
          go_roundw
          case rel => exact ⟨k + 1, by omega, by go_num, Lib.hid (take_eq_succ Heq.out hlt hlt2 Hd.out), HB3⟩
          case measure => simp [intOf]; omega
      · go_wp2
        go_ret
        refine ⟨ret_bool ?_, HB.out⟩
        rw [eq_comm, decide_eq_true_iff]
        have h := Heq.out
        rwa [List.take_of_length_le (by omega), List.take_of_length_le (by have := Hlen.out; omega)] at h
  · have hl0 : ((l1.length : Int) != (l2.length : Int)) = true := by rw [bne_iff_ne]; omega
    have H := Lib.hid hlen
    clear hlen
    go_enter Try.func15, Try.ntmps15
    go_wp2
    go_ret
    exact ⟨ret_bool (by rw [eq_comm, decide_eq_false_iff_not]; rintro rfl; exact H.out rfl), Below.refl _ _⟩
set_option maxHeartbeats 2000000 in
set_option maxRecDepth 20000 in
theorem implSameGrammar_any (a : Value) (x : GraD) (b : Value) (y : GraD) (w : World) (ha : GraR w a x) (hb : GraR w b y) :
    Calls Try.prog 7 #[a, b] w fun e w' => e = .returned (.bool (decide (x = y))) ∧ Below w.heap.size w w' := by
  obtain ⟨s1, s2, rfl, h1, h2⟩ := ha
  obtain ⟨t1, t2, rfl, g1, g2⟩ := hb
  have hb0 : Below w.heap.size w ((w.alloc (.cells #[s1, s2] 31)).alloc (.cells #[t1, t2] 31)) := ((Below.refl _ _).alloc (Nat.le_refl _) _).alloc (by simp) _
  have c1 := cell_alloc (.cells #[t1, t2] 31) (cell_newi w #[s1, s2] 31 1 s2 rfl)
  have d1 := cell_newi (w.alloc (.cells #[s1, s2] 31)) #[t1, t2] 31 1 t2 rfl
  rw [World.size_alloc] at d1
  go_enter Try.func7, Try.ntmps7
  go_wp2_with fail
  refine (equalAffix_any s1 t1 x.affixes y.affixes _ (h1.below hb0) (g1.below hb0)).mono ?_
  rintro e w1 ⟨rfl, hb1⟩
  have hbb := hb0.trans (hb1.mono hb0.size)
  have c2 := cell_below hb1 c1
  have d2 := cell_below hb1 d1
  clear c1 d1 hb1
  cases hd : decide (x.affixes = y.affixes)
  · have HD := Lib.hid hd
    go_wp2
    go_ret
    exact ⟨ret_bool (by rw [graD_eq, HD.out]; rfl), hbb⟩
  · have HD := Lib.hid hd
    clear hd
    go_wp2_with fail
    refine (equalFunc_any s2 t2 x.stems y.stems _ (h2.below hbb) (g2.below hbb)).mono ?_
    rintro e w2 ⟨rfl, hb2⟩
    have hbb2 := hbb.trans (hb2.mono hbb.size)
    cases hd2 : decide (x.stems = y.stems)
    · have HD2 := Lib.hid hd2
      go_wp2
      go_ret
      exact ⟨ret_bool (by rw [graD_eq, HD.out, HD2.out]; rfl), hbb2⟩
    · have HD2 := Lib.hid hd2
      go_wp2
      go_ret
      exact ⟨ret_bool (by rw [graD_eq, HD.out, HD2.out]; rfl), hbb2⟩
set_option maxHeartbeats 8000000 in
set_option maxRecDepth 20000 in
theorem specSameGrammar_any (a : Value) (x : GraD) (b : Value) (y : GraD) (w : World) (ha : GraR w a x) (hb : GraR w b y) :
    Calls Try.prog 5 #[a, b] w fun e w' => e = .returned (.bool (decide (x = y))) ∧ Below w.heap.size w w' := by
  obtain ⟨s1, s2, rfl, h1, h2⟩ := ha
  obtain ⟨t1, t2, rfl, g1, g2⟩ := hb
  obtain ⟨a1, c1, rfl, i1, i1', h1c⟩ := h1.shape
  obtain ⟨a2, c2, rfl, i2, i2', h2c⟩ := h2.shape
  obtain ⟨a3, c3, rfl, i3, i3', g1c⟩ := g1.shape
  obtain ⟨a4, c4, rfl, i4, i4', g2c⟩ := g2.shape
  clear h1 h2 g1 g2
  unfold maxLen at i1' i2' i3' i4'
  have hb0 : Below w.heap.size w ((w.alloc (.cells #[.slice a1 x.affixes.length c1, .slice a2 x.stems.length c2] 31)).alloc (.cells #[.slice a3 y.affixes.length c3, .slice a4 y.stems.length c4] 31)) := ((Below.refl _ _).alloc (Nat.le_refl _) _).alloc (by simp) _
  have p0 := cell_alloc (.cells #[.slice a3 y.affixes.length c3, .slice a4 y.stems.length c4] 31) (cell_newi w #[.slice a1 x.affixes.length c1, .slice a2 x.stems.length c2] 31 0 (.slice a1 x.affixes.length c1) rfl)
  have p1 := cell_alloc (.cells #[.slice a3 y.affixes.length c3, .slice a4 y.stems.length c4] 31) (cell_newi w #[.slice a1 x.affixes.length c1, .slice a2 x.stems.length c2] 31 1 (.slice a2 x.stems.length c2) rfl)
  have q0 := cell_newi (w.alloc (.cells #[.slice a1 x.affixes.length c1, .slice a2 x.stems.length c2] 31)) #[.slice a3 y.affixes.length c3, .slice a4 y.stems.length c4] 31 0 (.slice a3 y.affixes.length c3) rfl
  have q1 := cell_newi (w.alloc (.cells #[.slice a1 x.affixes.length c1, .slice a2 x.stems.length c2] 31)) #[.slice a3 y.affixes.length c3, .slice a4 y.stems.length c4] 31 1 (.slice a4 y.stems.length c4) rfl
  rw [World.size_alloc] at q0 q1
  by_cases hla : x.affixes.length = y.affixes.length
  · by_cases hls : x.stems.length = y.stems.length
    · have l1 : ((x.affixes.length : Int) != (y.affixes.length : Int)) = false := by rw [bne_eq_false_iff_eq]; omega
      have l2 : ((x.stems.length : Int) != (y.stems.length : Int)) = false := by rw [bne_eq_false_iff_eq]; omega
      have HLa := Lib.hid hla
      have HLs := Lib.hid hls
      have HB0 := Lib.hid hb0
      have hz0 : ((w.alloc (.cells #[.slice a1 x.affixes.length c1, .slice a2 x.stems.length c2] 31)).alloc (.cells #[.slice a3 y.affixes.length c3, .slice a4 y.stems.length c4] 31)).heap.size = w.heap.size + 1 + 1 := by simp
      clear hla hls hb0
      go_enter Try.func5, Try.ntmps5
      go_wp2
      go_loopw [5] (fun i wr => ∃ k : Nat, k ≤ x.affixes.length ∧ i = .int .i64 k ∧ Hid (x.affixes.take k = y.affixes.take k) ∧ Hid (Below ((w.alloc (.cells #[.slice a1 x.affixes.length c1, .slice a2 x.stems.length c2] 31)).alloc (.cells #[.slice a3 y.affixes.length c3, .slice a4 y.stems.length c4] 31)).heap.size ((w.alloc (.cells #[.slice a1 x.affixes.length c1, .slice a2 x.stems.length c2] 31)).alloc (.cells #[.slice a3 y.affixes.length c3, .slice a4 y.stems.length c4] 31)) wr)) (fun i _ => x.affixes.length - (intOf i).toNat)
      case atStart => exact ⟨0, Nat.zero_le _, rfl, Lib.hid rfl, Lib.hid (Below.refl _ _)⟩
      case round =>
        obtain ⟨k, hk, rfl, Heq, HB⟩ := hrel
        have e0 := cell_below HB.out p0
        have e1 := cell_below HB.out p1
        have e2 := cell_below HB.out q0
        have e3 := cell_below HB.out q1
        have HBw := Lib.hid (HB0.out.trans (HB.out.mono HB0.out.size))
        by_cases hlt : k < x.affixes.length
        · have hlt2 : k < y.affixes.length := by have := HLa.out; omega
          obtain ⟨b1, o1, rfl, k0, k1, k2, k3, k4, -⟩ := h1c k hlt
          obtain ⟨b2, o2, rfl, k5, k6, k7, k8, k9, -⟩ := g1c k hlt2
          have f0 := cell_below HBw.out k0
          have f1 := cell_below HBw.out k1
          have f2 := cell_below HBw.out k2
          have f3 := cell_below HBw.out k3
          have f4 := cell_below HBw.out k4
          have f5 := cell_below HBw.out k5
          have f6 := cell_below HBw.out k6
          have f7 := cell_below HBw.out k7
          have f8 := cell_below HBw.out k8
          have f9 := cell_below HBw.out k9
          have hI0 : (0 : Int) ≤ (k : Int) := by omega
          have hI1 : (k : Int) < (x.affixes.length : Int) := by omega
          have hI2 : (k : Int) < (y.affixes.length : Int) := by omega
          clear k0 k1 k2 k3 k4 k5 k6 k7 k8 k9 h1c g1c h2c g2c p0 p1 q0 q1
          obtain ⟨xa, hx⟩ : ∃ xa, xa = x.affixes[k] := ⟨_, rfl⟩
          obtain ⟨ya, hy⟩ : ∃ ya, ya = y.affixes[k] := ⟨_, rfl⟩
          rw [← hx] at f0 f1 f2 f3 f4
          rw [← hy] at f5 f6 f7 f8 f9
          have HX := Lib.hid hx
          have HY := Lib.hid hy
          clear hx hy
          have hneq := fun w => neq_aff xa ya w
          cases hd : decide (xa = ya)
          · have Hd := Lib.hid hd
            rw [hd, Bool.not_false] at hneq
            go_wp2_with fail
            go_quiet (fail)
            go_wp2
            go_ret
            refine ⟨ret_bool ?_, below_drewN HBw.out _⟩
            rw [eq_comm, decide_eq_false_iff_not]
            rintro rfl
            have h1 := HX.out
            have h2 := HY.out
            rw [h1, h2] at Hd
            have := Hd.out
            simp at this
          · have Hd := Lib.hid (of_decide_eq_true hd)
            rw [hd, Bool.not_true] at hneq
            go_wp2_with fail
            go_quiet (fail)
            go_wp2
            go_roundw
            case rel => exact ⟨k + 1, by omega, by go_num, Lib.hid (take_eq_succ Heq.out hlt hlt2 (by rw [← HX.out, ← HY.out]; exact Hd.out)), Lib.hid (below_drewN HB.out _)⟩
            case measure => simp [intOf]; omega
        · have heqA : x.affixes = y.affixes := by
            have h := Heq.out
            rwa [List.take_of_length_le (by omega), List.take_of_length_le (by have := HLa.out; omega)] at h
          have HEA := Lib.hid heqA
          clear heqA h1c g1c
          obtain ⟨ka, hka⟩ : ∃ ka : Int, ka = (k : Int) := ⟨_, rfl⟩
          go_wp2
          obtain ⟨wv, hwv⟩ : ∃ wv : World, wv = wr := ⟨_, rfl⟩
          go_loopw [6] (fun i wr => ∃ k : Nat, k ≤ x.stems.length ∧ i = .int .i64 k ∧ Hid (x.stems.take k = y.stems.take k) ∧ Hid (Below ((w.alloc (.cells #[.slice a1 x.affixes.length c1, .slice a2 x.stems.length c2] 31)).alloc (.cells #[.slice a3 y.affixes.length c3, .slice a4 y.stems.length c4] 31)).heap.size ((w.alloc (.cells #[.slice a1 x.affixes.length c1, .slice a2 x.stems.length c2] 31)).alloc (.cells #[.slice a3 y.affixes.length c3, .slice a4 y.stems.length c4] 31)) wr)) (fun i _ => x.stems.length - (intOf i).toNat)
          case atStart => exact ⟨0, Nat.zero_le _, rfl, Lib.hid rfl, HB⟩
          case round =>
            obtain ⟨m, hm, rfl, Heq2, HB2⟩ := hrel
            clear e0 e1 e2 e3
            have e1 := cell_below HB2.out p1
            have e3 := cell_below HB2.out q1
            have HBv := Lib.hid (HB0.out.trans (HB2.out.mono HB0.out.size))
            by_cases hlt3 : m < x.stems.length
            · have hlt4 : m < y.stems.length := by have := HLs.out; omega
              obtain ⟨b1, o1, u1, rfl, k0, k1, -, hu1⟩ := h2c m hlt3
              obtain ⟨b2, o2, u2, rfl, k2, k3, -, hu2⟩ := g2c m hlt4
              have f0 := cell_below HBv.out k0
              have f1 := cell_below HBv.out k1
              have f2 := cell_below HBv.out k2
              have f3 := cell_below HBv.out k3
              have HU1 := Lib.hid (hu1.below HBv.out)
              have HU2 := Lib.hid (hu2.below HBv.out)
              have hI0 : (0 : Int) ≤ (m : Int) := by omega
              have hI1 : (m : Int) < (x.stems.length : Int) := by omega
              have hI2 : (m : Int) < (y.stems.length : Int) := by omega
              clear k0 k1 k2 k3 h2c g2c hu1 hu2 p0 p1 q0 q1
              cases h0 : (x.stems[m].word.toList == y.stems[m].word.toList)
              · have H0 := Lib.hid h0
                go_wp2_with fail
                go_quiet (fail)
                go_wp2
                go_ret
                refine ⟨ret_bool ?_, below_drewN HBv.out _⟩
                rw [eq_comm, decide_eq_false_iff_not]
                rintro rfl
                have := H0.out
                simp at this
              · have E0 := Lib.hid (bytes_eq_of h0)
                go_wp2_with fail
                go_region_held3 (fun w' => w'.cell? ⟨w.heap.size, 1, none⟩ = some (.slice (some ⟨b1, o1, none⟩) x.stems.length c2) ∧ w'.cell? ⟨w.heap.size + 1, 1, none⟩ = some (.slice (some ⟨b2, o2, none⟩) y.stems.length c4) ∧ w'.cell? ⟨b1, o1 + m * 2, none⟩ = some (.string x.stems[m].word) ∧ w'.cell? ⟨b1, o1 + m * 2 + 1, none⟩ = some (u1) ∧ w'.cell? ⟨b2, o2 + m * 2, none⟩ = some (.string y.stems[m].word) ∧ w'.cell? ⟨b2, o2 + m * 2 + 1, none⟩ = some (u2) ∧ Below wr.heap.size wr w')
                  (first | exact ⟨e1, e3, f0, f1, f2, f3, (Below.refl _ _).drew⟩ | exact keepC hbk (by assumption) fun h => keepC hbk h fun h => keepC hbk h fun h => keepC hbk h fun h => keepC hbk h fun h => keepC hbk h fun h => keepE hbk h)
                  (first | (go_at_call 11; refine (l05Same_any u1 u2 x.stems[m].uses y.stems[m].uses _ ((fun (h : _ ∧ _ ∧ _ ∧ _ ∧ _ ∧ _ ∧ Below wr.heap.size wr _) => HU1.out.below h.2.2.2.2.2.2) (by assumption)) ((fun (h : _ ∧ _ ∧ _ ∧ _ ∧ _ ∧ _ ∧ Below wr.heap.size wr _) => HU2.out.below h.2.2.2.2.2.2) (by assumption))).mono ?_; rintro e w2 ⟨rfl, hbk⟩))
                have hb3 := (by assumption : _ ∧ _ ∧ _ ∧ _ ∧ _ ∧ _ ∧ Below wr.heap.size wr w2).2.2.2.2.2.2
                have HB3 := Lib.hid (HBv.out.trans (hb3.mono HBv.out.size))
                have HB4 := Lib.hid (HB2.out.trans (hb3.mono HB2.out.size))
                clear hb3 e1 e3 f0 f1 f2 f3
                cases hd : decide (x.stems[m].uses = y.stems[m].uses)
                · have Hd := Lib.hid hd
                  go_wp2
                  go_ret
                  refine ⟨ret_bool ?_, HB3.out⟩
                  rw [eq_comm, decide_eq_false_iff_not]
                  rintro rfl
                  have := Hd.out
                  simp at this
                · have Hd := Lib.hid (of_decide_eq_true hd)
                  go_wp2
                  go_roundw
                  case rel => exact ⟨m + 1, by omega, by go_num, Lib.hid (take_eq_succ Heq2.out hlt3 hlt4 (by
                    have h1 := E0.out
                    have h2 := Hd.out
                    generalize x.stems[m] = sx at h1 h2 ⊢
                    generalize y.stems[m] = sy at h1 h2 ⊢
                    cases sx; cases sy; simp_all)), HB4⟩
                  case measure => simp [intOf]; omega
            · go_wp2
              go_ret
              refine ⟨ret_bool ?_, HBv.out⟩
              rw [eq_comm, decide_eq_true_iff]
              have h := Heq2.out
              rw [List.take_of_length_le (by omega), List.take_of_length_le (by have := HLs.out; omega)] at h
              have h2 := HEA.out
              cases x; cases y; simp_all
    · have l1 : ((x.affixes.length : Int) != (y.affixes.length : Int)) = false := by rw [bne_eq_false_iff_eq]; omega
      have l2 : ((x.stems.length : Int) != (y.stems.length : Int)) = true := by rw [bne_iff_ne]; omega
      have H := Lib.hid hls
      clear hls hla
      go_enter Try.func5, Try.ntmps5
      go_wp2
      go_ret
      exact ⟨ret_bool (by rw [eq_comm, decide_eq_false_iff_not]; rintro rfl; exact H.out rfl), hb0⟩
  · have l1 : ((x.affixes.length : Int) != (y.affixes.length : Int)) = true := by rw [bne_iff_ne]; omega
    have H := Lib.hid hla
    clear hla
    go_enter Try.func5, Try.ntmps5
    go_wp2
    go_ret
    exact ⟨ret_bool (by rw [eq_comm, decide_eq_false_iff_not]; rintro rfl; exact H.out rfl), hb0⟩
end Go.Proofs.Ytjefmicahadijaa
