/- WaysToMake of the program. Conditions: strings of at most 2^20 bytes. -/
import Derived.Test.YthpjinfkagllfaaWz
import Derived.Laws.EntriesVeiled
set_option linter.unusedSimpArgs false
namespace Go.Proofs.Ythpjinfkagllfaa
open Go.RowKit
attribute [local irreducible] Calls
def wmV (f : Nat → Int) (s : List UInt8) : List ByteArray := if needR f s ≤ f 0 then (waysC f s).map mkS else []
/-- What the closure's variables are made of. -/
def Made (W0 wx : World) (s5 s6 : Value) (s : ByteArray) : Prop := ∃ yb bf bg gy cap : Nat, s5 = .pointer (some ⟨yb, 0, none⟩) ∧ s6 = .pointer (some ⟨bf, 0, none⟩) ∧
  wx.heap[yb]? = some (.cells #[.slice (some ⟨gy, 0, none⟩) 0 0] 22 (0, 0)) ∧ wx.heap[gy]? = some (.cells #[] 9 (0, 0)) ∧
  wx.heap[bf]? = some (.cells #[.slice (some ⟨bg, 0, none⟩) s.size cap] 30 (0, 0)) ∧ RowB wx bg s.data.toList ∧ Below W0.heap.size W0 wx ∧
  (W0.heap.size ≤ yb ∧ W0.heap.size ≤ bf ∧ W0.heap.size ≤ bg ∧ W0.heap.size ≤ gy) ∧ (yb ≠ bf ∧ yb ≠ bg ∧ yb ≠ gy ∧ bf ≠ bg ∧ bf ≠ gy ∧ bg ≠ gy)
theorem made_of {W0 wx : World} {A B C D : Obj} {n : Nat} {s : ByteArray} (iy ib ig ie : Nat) {cap : Nat} (hz : W0.heap.size = n) (hh : wx.heap = (((W0.heap.push A).push B).push C).push D) (h1 : wx.os = W0.os) (h2 : wx.tape = W0.tape) (h3 : wx.output = W0.output)
    (hp : iy < 4 ∧ ib < 4 ∧ ig < 4 ∧ ie < 4 ∧ iy ≠ ib ∧ iy ≠ ig ∧ iy ≠ ie ∧ ib ≠ ig ∧ ib ≠ ie ∧ ig ≠ ie)
    (hy : [A, B, C, D][iy]? = some (.cells #[.slice (some ⟨n + ie, 0, none⟩) 0 0] 22 (0, 0))) (he : [A, B, C, D][ie]? = some (.cells #[] 9 (0, 0)))
    (hb : [A, B, C, D][ib]? = some (.cells #[.slice (some ⟨n + ig, 0, none⟩) s.size cap] 30 (0, 0))) (hg : [A, B, C, D][ig]? = some (.cells (bytesRow s cap) 5 ((bytesRow s cap).size, (bytesRow s cap).size + 1))) :
    Made W0 wx (.pointer (some ⟨n + iy, 0, none⟩)) (.pointer (some ⟨n + ib, 0, none⟩)) s := by
  subst hz
  have key : ∀ i, i < 4 → wx.heap[W0.heap.size + i]? = [A, B, C, D][i]? := fun i hi => by
    rw [hh]
    simp only [Array.getElem?_push, Array.size_push]
    match i, hi with
    | 0, _ => rw [if_neg (by omega), if_neg (by omega), if_neg (by omega), if_pos (by omega)]; rfl
    | 1, _ => rw [if_neg (by omega), if_neg (by omega), if_pos (by omega)]; rfl
    | 2, _ => rw [if_neg (by omega), if_pos (by omega)]; rfl
    | 3, _ => rw [if_pos (by omega)]; rfl
  refine ⟨_, _, W0.heap.size + ig, W0.heap.size + ie, cap, rfl, rfl, (key iy hp.1).trans hy, (key ie (by omega)).trans he, (key ib (by omega)).trans hb, ⟨bytesRow s cap, (key ig (by omega)).trans hg, fun j x hx => ?_⟩, ⟨h1, h2, h3, by rw [hh]; simp only [Array.size_push]; omega, fun k hk => ?_⟩, by omega, by omega⟩
  · have hj : j < s.size := by have := (List.getElem?_eq_some_iff.1 hx).1; simpa using this
    have e : s.data.toList[j]? = some s[j] := Lib.data_getElem? s j hj
    rw [e] at hx
    cases hx
    exact bytesRow_at s cap j hj
  · rw [hh]
    simp only [Array.getElem?_push, Array.size_push]
    rw [if_neg (by omega), if_neg (by omega), if_neg (by omega), if_neg (by omega)]
set_option maxHeartbeats 8000000 in
set_option maxRecDepth 20000 in
theorem waysToMake_any (f : Nat → Int) (s : ByteArray) (w : World) (hf : ∀ p, 0 ≤ f p ∧ f p ≤ 2097152) (hsm : smallAll s.data.toList = true) (hs12 : s.size ≤ 12) :
    Calls Try.prog 38 #[.agg (cs f), .string s] w fun e w' => ∃ v, e = .returned v ∧ OwnS w' w.heap.size v (wmV f s.data.toList) ∧ Below w.heap.size w w' := by
  have hc1 : ((w.alloc (.cells (cs f) 53)).alloc (.cells #[.string s] 9)).cell? ⟨w.heap.size + 1, 0, none⟩ = some (.string s) := by
    have := cell_newi (w.alloc (.cells (cs f) 53)) #[.string s] 9 0 (.string s) rfl
    rwa [World.size_alloc] at this
  have hz0 : ((w.alloc (.cells (cs f) 53)).alloc (.cells #[.string s] 9)).heap.size = w.heap.size + 2 := by simp
  have hcv := fun w => run_bytes_of_string (P := Try.prog) w 9 30 5 s Try.underlying9 Try.underlying30 Try.underlying5
  have HW0 := Lib.hid (show ((w.alloc (.cells (cs f) 53)).alloc (.cells #[.string s] 9)).heap[w.heap.size]? = some (.cells (cs f) 53 (0, 0)) ∧ ((w.alloc (.cells (cs f) 53)).alloc (.cells #[.string s] 9)).heap[w.heap.size + 1]? = some (.cells #[.string s] 9 (0, 0)) ∧
    Below w.heap.size w ((w.alloc (.cells (cs f) 53)).alloc (.cells #[.string s] 9)) from ⟨heap_alloc2_old w _ _, heap_alloc2_new w _ _, ((Below.refl _ _).alloc (Nat.le_refl _) _).alloc (by simp) _⟩)
  go_enter Try.func38, Try.ntmps38
  go_upto_region 1 with fail
  obtain ⟨W0, hW0⟩ : ∃ W0, W0 = ((w.alloc (.cells (cs f) 53)).alloc (.cells #[.string s] 9)) := ⟨_, rfl⟩
  rw [← hW0] at HW0 hc1 hz0 ⊢
  clear hW0
  go_cut [5, 6] (fun s5 s6 wx => Made W0 wx s5 s6 s)
  case first =>
    go_region
    all_goals (go_wp2_with fail; go_meet; first | exact made_of 0 1 2 3 hz0 rfl rfl rfl rfl (by decide) rfl rfl rfl rfl | exact made_of 0 1 3 2 hz0 rfl rfl rfl rfl (by decide) rfl rfl rfl rfl | exact made_of 0 2 1 3 hz0 rfl rfl rfl rfl (by decide) rfl rfl rfl rfl | exact made_of 0 2 3 1 hz0 rfl rfl rfl rfl (by decide) rfl rfl rfl rfl | exact made_of 0 3 1 2 hz0 rfl rfl rfl rfl (by decide) rfl rfl rfl rfl | exact made_of 0 3 2 1 hz0 rfl rfl rfl rfl (by decide) rfl rfl rfl rfl | exact made_of 1 0 2 3 hz0 rfl rfl rfl rfl (by decide) rfl rfl rfl rfl | exact made_of 1 0 3 2 hz0 rfl rfl rfl rfl (by decide) rfl rfl rfl rfl | exact made_of 1 2 0 3 hz0 rfl rfl rfl rfl (by decide) rfl rfl rfl rfl | exact made_of 1 2 3 0 hz0 rfl rfl rfl rfl (by decide) rfl rfl rfl rfl | exact made_of 1 3 0 2 hz0 rfl rfl rfl rfl (by decide) rfl rfl rfl rfl | exact made_of 1 3 2 0 hz0 rfl rfl rfl rfl (by decide) rfl rfl rfl rfl | exact made_of 2 0 1 3 hz0 rfl rfl rfl rfl (by decide) rfl rfl rfl rfl | exact made_of 2 0 3 1 hz0 rfl rfl rfl rfl (by decide) rfl rfl rfl rfl | exact made_of 2 1 0 3 hz0 rfl rfl rfl rfl (by decide) rfl rfl rfl rfl | exact made_of 2 1 3 0 hz0 rfl rfl rfl rfl (by decide) rfl rfl rfl rfl | exact made_of 2 3 0 1 hz0 rfl rfl rfl rfl (by decide) rfl rfl rfl rfl | exact made_of 2 3 1 0 hz0 rfl rfl rfl rfl (by decide) rfl rfl rfl rfl | exact made_of 3 0 1 2 hz0 rfl rfl rfl rfl (by decide) rfl rfl rfl rfl | exact made_of 3 0 2 1 hz0 rfl rfl rfl rfl (by decide) rfl rfl rfl rfl | exact made_of 3 1 0 2 hz0 rfl rfl rfl rfl (by decide) rfl rfl rfl rfl | exact made_of 3 1 2 0 hz0 rfl rfl rfl rfl (by decide) rfl rfl rfl rfl | exact made_of 3 2 0 1 hz0 rfl rfl rfl rfl (by decide) rfl rfl rfl rfl | exact made_of 3 2 1 0 hz0 rfl rfl rfl rfl (by decide) rfl rfl rfl rfl)
  case rest =>
    obtain ⟨yb, bf, bg, gy, cap, rfl, rfl, hy, he, hbf, hrow, hbl, hge, hne⟩ := hcut
    have hmf : ∀ (fn : Fn) (first cap : Array Value) (w : World), (Instr.makeFunc fn first cap).run Try.prog w = .ok (.func fn first cap) w := fun _ _ _ _ => rfl
    have hzc := hbl.size
    have hy2 := lt_of_heap hy; have hbf2 := lt_of_heap hbf; have hg2 := hrow.lt; have he2 := lt_of_heap he
    have hcb : wc.heap[w.heap.size]? = some (.cells (cs f) 53 (0, 0)) := (hbl.block _ (by omega)).trans HW0.out.1
    have hwb : wc.heap[w.heap.size + 1]? = some (.cells #[.string s] 9 (0, 0)) := (hbl.block _ (by omega)).trans HW0.out.2.1
    have S : Six (w.heap.size + 1) yb bf bg w.heap.size wc.heap.size := by constructor <;> omega
    have hold : ∀ k, k < wc.heap.size → (wc.alloc (.cells #[(.func (.func 75) #[] #[.pointer (some ⟨w.heap.size + 1, 0, none⟩), .pointer (some ⟨yb, 0, none⟩), .pointer (some ⟨bf, 0, none⟩), .pointer (some ⟨w.heap.size, 0, none⟩), .pointer (some ⟨wc.heap.size, 0, none⟩)])] 79)).heap[k]? = wc.heap[k]? := fun k hk => Below.heap_alloc _ _ _ hk
    have hB5 : Below w.heap.size w (wc.alloc (.cells #[(.func (.func 75) #[] #[.pointer (some ⟨w.heap.size + 1, 0, none⟩), .pointer (some ⟨yb, 0, none⟩), .pointer (some ⟨bf, 0, none⟩), .pointer (some ⟨w.heap.size, 0, none⟩), .pointer (some ⟨wc.heap.size, 0, none⟩)])] 79)) := (HW0.out.2.2.trans (hbl.mono (by omega))).alloc (by omega) _
    have hkb : (wc.alloc (.cells #[(.func (.func 75) #[] #[.pointer (some ⟨w.heap.size + 1, 0, none⟩), .pointer (some ⟨yb, 0, none⟩), .pointer (some ⟨bf, 0, none⟩), .pointer (some ⟨w.heap.size, 0, none⟩), .pointer (some ⟨wc.heap.size, 0, none⟩)])] 79)).heap[wc.heap.size]? = some (.cells #[(.func (.func 75) #[] #[.pointer (some ⟨w.heap.size + 1, 0, none⟩), .pointer (some ⟨yb, 0, none⟩), .pointer (some ⟨bf, 0, none⟩), .pointer (some ⟨w.heap.size, 0, none⟩), .pointer (some ⟨wc.heap.size, 0, none⟩)])] 79 (0, 0)) := heap_alloc_new wc _
    have HS := Lib.hid S
    have HW5 : Hid (WayS (wc.alloc (.cells #[(.func (.func 75) #[] #[.pointer (some ⟨w.heap.size + 1, 0, none⟩), .pointer (some ⟨yb, 0, none⟩), .pointer (some ⟨bf, 0, none⟩), .pointer (some ⟨w.heap.size, 0, none⟩), .pointer (some ⟨wc.heap.size, 0, none⟩)])] 79)) w.heap.size (w.heap.size + 1) yb bf bg w.heap.size wc.heap.size cap s f (.slice (some ⟨gy, 0, none⟩) 0 0) [] s.data.toList) := Lib.hid
      ⟨(hold _ (by omega)).trans hwb, by rw [show s.data.toList.length = s.size from Array.length_toList]; exact (hold _ (by omega)).trans hbf, hrow.of_block (hold _ (by omega)), (hold _ (by omega)).trans hcb, hkb, (hold _ (by omega)).trans hy,
        ⟨rfl, .inr ⟨gy, 0, #[], rfl, by omega, (hold _ (by omega)).trans he, Nat.le_refl _, by unfold maxLen; omega, rfl, rfl⟩⟩, fun k hk => by
          obtain rfl : gy = k := by simpa [Value.ownBlock] using hk
          omega, Array.length_toList⟩
    have HB5 := Lib.hid hB5
    obtain ⟨k0, l0⟩ := src_cell (i := 0) (v := .nilFunc) (heap_alloc_new wc (.cells #[.nilFunc] 79)) rfl
    obtain ⟨k1, l1⟩ := src_cell (i := 0) (v := .string s) HW5.out.word rfl
    have hywc : yb ≠ wc.heap.size := by omega
    have hge2 : w.heap.size ≤ wc.heap.size := by omega
    have hcr := HW5.out.cnt
    have hge3 : w.heap.size ≤ yb ∧ w.heap.size ≤ bf ∧ w.heap.size ≤ bg ∧ w.heap.size ≤ gy := by omega
    clear hold hB5 hkb hy he hbf hrow hbl hne hcb hwb hc1 S hge hzc hz0
    go_wp2_with (refine wpList_load_row rfl 53 _ rfl w.heap.size rfl _ _ _ _ hcr Try.underlying53 rfl (by rw [cs_size]; exact infoCounts) ?_)
    refine (canMake_any f s _ hf (by omega) (small_tiles hsm)).mono ?_
    rintro e w6 ⟨rfl, hb6⟩
    have HW6 := Lib.hid (HW5.out.below hb6)
    have HB6 := Lib.hid (HB5.out.trans (hb6.mono HB5.out.size))
    obtain ⟨k6, _⟩ := src_cell (i := 0) (v := wayF (w.heap.size + 1) yb bf w.heap.size wc.heap.size) HW6.out.walk rfl
    unfold wayF at k6
    obtain ⟨k7, _⟩ := src_cell (i := 0) HW6.out.ways rfl
    clear hb6 hcr k0 l0 k1 l1
    cases hn : decide (needR f s.data.toList ≤ f 0)
    · have Hn := Lib.hid hn
      go_wp2
      go_ret
      exact ⟨_, rfl, by rw [wmV, if_neg (of_decide_eq_false Hn.out)]; exact HW6.out.own, HB6.out⟩
    · have Hn := Lib.hid hn
      go_wp2_with fail
      refine (walk_any w.heap.size (w.heap.size + 1) yb bf bg w.heap.size wc.heap.size cap s HS.out (by omega) hsm hs12 s.size 0 0 f _ [] s.data.toList _ (by omega) rfl hf (by have := Nat.pow_le_pow_right (show 0 < 2 by omega) hs12; simp; omega) HW6.out).mono ?_
      rintro e w7 ⟨rfl, bs', yv', hW7, -, hF7⟩
      obtain ⟨k8, _⟩ := src_cell (i := 0) hW7.ways rfl
      have HW7 := Lib.hid hW7
      have hB7 := hF7.below (B := w.heap.size) (by have := HB6.out.size; omega) (fun k hk => by obtain rfl : gy = k := (by simpa [Value.ownBlock] using hk); omega)
      have HB7 := Lib.hid (HB6.out.trans hB7)
      clear hW7 hF7 hB7
      go_wp2
      go_ret
      exact ⟨_, rfl, by rw [wmV, if_pos (of_decide_eq_true Hn.out)]; simpa using HW7.out.own, HB7.out⟩
theorem wyV_pile {a s : ByteArray} (h : isPile a = false) : wyV a s = [] ∧ wyE a s = 1 := by simp [wyV, wyE, h]
theorem wyV_word {a s : ByteArray} (h : isPile a = true) (h2 : isWord s = false) : wyV a s = [] ∧ wyE a s = 7 := by simp [wyV, wyE, h, h2]
theorem wyV_yes {a s : ByteArray} (h : isPile a = true) (h2 : isWord s = true) : wyV a s = wmV (cntOf a.data.toList) s.data.toList ∧ wyE a s = 0 := by
  simp only [wyV, wyE, wmV, h, h2, Bool.true_and, if_true, decide_eq_true_eq, and_self]
theorem wyV_max (a s : ByteArray) : ∀ x ∈ wyV a s, x.size ≤ maxLen := by
  intro x hx
  unfold wyV at hx
  split at hx
  · rename_i h
    simp only [isWord, inI, Bool.and_eq_true, decide_eq_true_eq] at h
    obtain ⟨y, hy, rfl⟩ := List.mem_map.1 hx
    have h1 := waysC_each _ _ y hy
    rw [mkS_size, h1, Array.length_toList]
    show s.size ≤ maxLen
    unfold maxLen; omega
  · simp at hx
theorem word_small {s : ByteArray} (h : isWord s = true) : smallAll s.data.toList = true ∧ s.size ≤ 12 := by
  simp only [isWord, inI, Bool.and_eq_true, decide_eq_true_eq] at h
  exact ⟨h.1, by omega⟩
theorem nil_strs (w : World) (lo hi : Nat) : StrsW w lo hi (.slice none 0 0) [] := ⟨⟨rfl, none, 0, rfl, Nat.le_refl _, by unfold maxLen; omega, .inl rfl⟩, by simp⟩
set_option maxHeartbeats 2000000 in
theorem implWaysToMake_any (a s : ByteArray) (w : World) (has : a.size ≤ 1048576) (hs : s.size ≤ 1048576) :
    Calls Try.prog 9 #[.string a, .string s] w fun e w' => ∃ v', e = .returned (.tuple #[v', .int .i64 (wyE a s)]) ∧ StrsW w' w.heap.size w'.heap.size v' (wyV a s) ∧ Below w.heap.size w w' := by
  have hma : a.size ≤ maxLen := by unfold maxLen; omega
  have hms : s.size ≤ maxLen := by unfold maxLen; omega
  cases hA : isPile a
  · have HA := Lib.hid (wyV_pile (s := s) hA)
    go_enter Try.func9, Try.ntmps9
    go_wp2_with fail
    refine (ivp_any _ _ hma).mono ?_
    rw [hA]
    rintro e w1 ⟨rfl, hb1⟩
    go_wp2
    go_ret2
    exact ⟨_, by rw [HA.out.2]; rfl, by rw [HA.out.1]; exact nil_strs _ _ _, hb1⟩
  · have HA := Lib.hid hA
    cases hW : isWord s
    · have HV := Lib.hid (wyV_word hA hW)
      go_enter Try.func9, Try.ntmps9
      go_wp2_with fail
      refine (ivp_any _ _ hma).mono ?_
      rw [hA]
      rintro e w1 ⟨rfl, hb1⟩
      go_wp2_with fail
      refine (implIsWord_any _ _ hms).mono ?_
      rw [hW]
      rintro e w2 ⟨rfl, hb2⟩
      have hb2' := hb1.trans (hb2.mono hb1.size)
      go_wp2
      go_ret2
      exact ⟨_, by rw [HV.out.2]; rfl, by rw [HV.out.1]; exact nil_strs _ _ _, hb2'⟩
    · have HV := Lib.hid (wyV_yes hA hW)
      have HW := Lib.hid hW
      have h120 := (pile_parts HA.out).2.2
      have Hmx := Lib.hid (wyV_max a s)
      go_enter Try.func9, Try.ntmps9
      go_wp2_with fail
      refine (ivp_any _ _ hma).mono ?_
      rw [hA]
      rintro e w1 ⟨rfl, hb1⟩
      go_wp2_with fail
      refine (implIsWord_any _ _ hms).mono ?_
      rw [hW]
      rintro e w2 ⟨rfl, hb2⟩
      have hb2' := hb1.trans (hb2.mono hb1.size)
      go_wp2_with fail
      refine (countsOf_any _ _ (by omega) (pile_parts HA.out).1).mono ?_
      rintro e w3 ⟨rfl, hb3⟩
      have hb3' := hb2'.trans (hb3.mono hb2'.size)
      clear hA hW hb1 hb2 hb3
      go_wp2_with fail
      refine (waysToMake_any _ s _ (fun p => by have := cntOf_le a.data.toList p; rw [Array.length_toList] at this; change _ ∧ _ ≤ ((a.size : Nat) : Int) at this; omega) (word_small HW.out).1 (word_small HW.out).2).mono ?_
      rintro e w4 ⟨v, rfl, hv, hb4⟩
      have hb4' := hb3'.trans (hb4.mono hb3'.size)
      have Hv := Lib.hid hv
      obtain ⟨va, vc, rfl, -, -⟩ := hv.shape
      clear hv
      go_wp2
      go_ret2
      refine ⟨_, by rw [HV.out.2]; rfl, ?_, hb4'⟩
      have h2 := Hmx.out
      rw [HV.out.1] at h2 ⊢
      exact (Hv.out.strs h2).mono hb3'.size (Nat.le_refl _)
set_option maxHeartbeats 2000000 in
theorem specWaysToMake_any (a s : ByteArray) (w : World) (has : a.size ≤ 1048576) (hs : s.size ≤ 1048576) :
    Calls Try.prog 8 #[.string a, .string s] w fun e w' => ∃ v', e = .returned (.tuple #[v', .int .i64 (wyE a s)]) ∧ StrsW w' w.heap.size w'.heap.size v' (wyV a s) ∧ Below w.heap.size w w' := by
  have hma : a.size ≤ maxLen := by unfold maxLen; omega
  have hms : s.size ≤ maxLen := by unfold maxLen; omega
  cases hA : isPile a
  · have HA := Lib.hid (wyV_pile (s := s) hA)
    go_enter Try.func8, Try.ntmps8
    go_wp2_with fail
    refine (svp_any _ _ hma).mono ?_
    rw [hA]
    rintro e w1 ⟨rfl, hb1⟩
    go_wp2
    go_ret2
    exact ⟨_, by rw [HA.out.2]; rfl, by rw [HA.out.1]; exact nil_strs _ _ _, hb1⟩
  · have HA := Lib.hid hA
    cases hW : isWord s
    · have HV := Lib.hid (wyV_word hA hW)
      go_enter Try.func8, Try.ntmps8
      go_wp2_with fail
      refine (svp_any _ _ hma).mono ?_
      rw [hA]
      rintro e w1 ⟨rfl, hb1⟩
      go_wp2_with fail
      refine (specIsWord_any _ _ hms).mono ?_
      rw [hW]
      rintro e w2 ⟨rfl, hwe⟩
      have hb2 := below_eq hwe
      clear hwe
      have hb2' := hb1.trans (hb2.mono hb1.size)
      go_wp2
      go_ret2
      exact ⟨_, by rw [HV.out.2]; rfl, by rw [HV.out.1]; exact nil_strs _ _ _, hb2'⟩
    · have HV := Lib.hid (wyV_yes hA hW)
      have HW := Lib.hid hW
      have hp := pile_parts hA
      have h120 := hp.2.2
      have Hp := Lib.hid hp
      have Hmx := Lib.hid (wyV_max a s)
      clear hp
      go_enter Try.func8, Try.ntmps8
      go_wp2_with fail
      refine (svp_any _ _ hma).mono ?_
      rw [hA]
      rintro e w1 ⟨rfl, hb1⟩
      go_wp2_with fail
      refine (specIsWord_any _ _ hms).mono ?_
      rw [hW]
      rintro e w2 ⟨rfl, hwe⟩
      have hb2 := below_eq hwe
      clear hwe
      have hb2' := hb1.trans (hb2.mono hb1.size)
      go_wp2_with fail
      refine (l03Can_any _ _ _ HA.out hs (word_tiles HW.out).1).mono ?_
      rintro e w3 ⟨rfl, hb3⟩
      have hb3' := hb2'.trans (hb3.mono hb2'.size)
      clear hA hW hb1 hb2 hb3
      cases hn : decide (needR (cntOf a.data.toList) s.data.toList ≤ cntOf a.data.toList 0)
      · have Hn := Lib.hid hn
        have HO := Lib.hid (OwnS.made w3 w3.heap.size (Nat.le_refl _))
        go_wp2
        go_ret2
        refine ⟨_, by rw [HV.out.2]; rfl, ?_, hb3'.alloc hb3'.size _⟩
        rw [HV.out.1, wmV, if_neg (of_decide_eq_false Hn.out)]
        exact (HO.out.strs (by simp)).mono hb3'.size (Nat.le_refl _)
      · have Hn := Lib.hid hn
        go_wp2_with fail
        refine (l03Ways_any s.size a s _ rfl (word_small HW.out).2 Hp.out.2.1 Hp.out.1 (by omega) (word_small HW.out).1).mono ?_
        rintro e w4 ⟨v, rfl, hv, hb4⟩
        have hb4' := hb3'.trans (hb4.mono hb3'.size)
        obtain ⟨L, hL⟩ : ∃ L, L = (waysP a.data.toList s.data.toList).map mkS := ⟨_, rfl⟩
        rw [← hL] at hv
        have HL := Lib.hid hL
        have Hv := Lib.hid hv
        obtain ⟨va, vc, rfl, -, -⟩ := hv.shape
        clear hv hL
        go_wp2
        go_ret2
        refine ⟨_, by rw [HV.out.2]; rfl, ?_, hb4'⟩
        have h2 := Hmx.out
        rw [HV.out.1, wmV, if_pos (of_decide_eq_true Hn.out)] at h2 ⊢
        rw [← waysP_eq _ _ Hp.out.2.1 Hp.out.1 (word_small HW.out).1, ← HL.out] at h2 ⊢
        exact (Hv.out.strs h2).mono hb3'.size (Nat.le_refl _)
end Go.Proofs.Ythpjinfkagllfaa
