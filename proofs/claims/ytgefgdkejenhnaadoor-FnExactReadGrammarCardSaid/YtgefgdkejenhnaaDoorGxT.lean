/- GrammarText of the reference. No condition but the readings. -/
import Derived.Test.YtgefgdkejenhnaaDoorGxL
import Derived.Test.YtgefgdkejenhnaaDoorLa
set_option linter.unusedSimpArgs false
namespace Go.Proofs.YtgefgdkejenhnaaDoor
open Go.RowKit
theorem ba_app (a b : ByteArray) : (a ++ b).data.toList = a.data.toList ++ b.data.toList := by simp
theorem ba_size {r : ByteArray} {l : List UInt8} (h : r.data.toList = l) : r.size = l.length := by subst h; exact Array.length_toList.symm
theorem ba_eq {r : ByteArray} {l : List UInt8} (h : r.data.toList = l) : r = ⟨l.toArray⟩ := by subst h; rfl
attribute [local irreducible] Calls
theorem l04Part_any (s : ByteArray) (w : World) : Calls Tryd.prog 90 #[.string s] w fun e w' => e = .returned (.string (dashB s)) ∧ w = w' := by
  cases h : s.toList.isEmpty
  · have H := Lib.hid (show dashB s = s by simp [dashB, h])
    go_enter Tryd.func90, Tryd.ntmps90
    go_wp2
    go_ret
    exact ⟨ret_str H.out.symm, rfl⟩
  · have H := Lib.hid (show dashB s = ⟨#[45]⟩ by simp [dashB, h])
    go_enter Tryd.func90, Tryd.ntmps90
    go_wp2
    go_ret
    exact ⟨ret_str H.out.symm, rfl⟩
theorem l04Part_is {s r : ByteArray} (h : dashB s = r) (w : World) : Calls Tryd.prog 90 #[.string s] w fun e w' => e = .returned (.string r) ∧ w = w' := h ▸ l04Part_any s w
set_option maxHeartbeats 8000000 in
set_option maxRecDepth 20000 in
theorem l04Text_any (g : Nat) (s1 s2 : Value) (x : GraD) (w : World) (hx : GraBox w g s1 s2 x) (hS : GraS x) :
    Calls Tryd.prog 56 #[.pointer (some ⟨g, 0, none⟩)] w fun e w' => e = .returned (.string ⟨(textG x).toArray⟩) ∧ ∃ q, w' = w.drewN q := by
  obtain ⟨h0, h1, ha, hs⟩ := hx
  obtain ⟨a1, k1, rfl, hl1, hk1, hcs1⟩ := ha.shape
  obtain ⟨a2, k2, rfl, hl2, hk2, hcs2⟩ := hs.shape
  unfold maxLen at hk1 hk2
  have HS := Lib.hid hS
  have hn12 := hS.a
  have hn30 := hS.s
  have HC1 := Lib.hid hcs1
  have HC2 := Lib.hid hcs2
  clear ha hs hS hcs1 hcs2
  go_enter Tryd.func56, Tryd.ntmps56
  go_wp2
  go_loopw [3, 4] (fun out i wr => ∃ (j q : Nat) (r : ByteArray), j ≤ x.affixes.length ∧ i = .int .i64 (j : Int) ∧ out = .string r ∧ Hid (r.data.toList = (x.affixes.take j).flatMap affT) ∧ Hid (wr = w.drewN q)) (fun _ i _ => x.affixes.length - (intOf i).toNat)
  case atStart => exact ⟨0, 0, ⟨#[]⟩, by omega, rfl, rfl, Lib.hid (by simp), Lib.hid rfl⟩
  case round =>
    obtain ⟨j, q, r, hj, rfl, rfl, HR, HW⟩ := hrel
    have h02 : wr.cell? ⟨g, 0, none⟩ = some (.slice a1 x.affixes.length k1) := by rw [HW.out]; exact h0
    have h12 : wr.cell? ⟨g, 1, none⟩ = some (.slice a2 x.stems.length k2) := by rw [HW.out]; exact h1
    have hrs : r.size ≤ 576 := by rw [ba_size HR.out]; exact affs_le HS.out j
    by_cases hlt : j < x.affixes.length
    · obtain ⟨b1, o1, rfl, e0, e1, e2, e3, e4, -⟩ := HC1.out j hlt
      have hA := HS.out.afs j hlt
      obtain ⟨p1, hp1⟩ : ∃ p1, dashB x.affixes[j].cond = p1 := ⟨_, rfl⟩
      obtain ⟨p2, hp2⟩ : ∃ p2, dashB x.affixes[j].strip = p2 := ⟨_, rfl⟩
      obtain ⟨p3, hp3⟩ : ∃ p3, dashB x.affixes[j].add = p3 := ⟨_, rfl⟩
      have hs1 : p1.size ≤ 4 := hp1 ▸ dashB_le hA.c
      have hs2 : p2.size ≤ 4 := hp2 ▸ dashB_le hA.s
      have hs3 : p3.size ≤ 4 := hp3 ▸ dashB_le hA.a
      have hs0 := hA.n.2
      have e0 : wr.cell? ⟨b1, o1 + j * 5, none⟩ = some (.string x.affixes[j].name) := by rw [HW.out]; exact e0
      have e1 : wr.cell? ⟨b1, o1 + j * 5 + 1, none⟩ = some (.bool x.affixes[j].front) := by rw [HW.out]; exact e1
      have e2 : wr.cell? ⟨b1, o1 + j * 5 + 2, none⟩ = some (.string x.affixes[j].cond) := by rw [HW.out]; exact e2
      have e3 : wr.cell? ⟨b1, o1 + j * 5 + 3, none⟩ = some (.string x.affixes[j].strip) := by rw [HW.out]; exact e3
      have e4 : wr.cell? ⟨b1, o1 + j * 5 + 4, none⟩ = some (.string x.affixes[j].add) := by rw [HW.out]; exact e4
      have HP := Lib.hid (And.intro hp1 (And.intro hp2 hp3))
      clear hA hp1 hp2 hp3
      cases hf : x.affixes[j].front
      all_goals
        have HF := Lib.hid hf
        rw [hf] at e1
        clear hf
        go_wp2
        go_quiet ((go_at_call 90; first | exact quiet_eq (l04Part_is HP.out.1 _) | exact quiet_eq (l04Part_is HP.out.2.1 _) | exact quiet_eq (l04Part_is HP.out.2.2 _)))
        go_wp2
        go_roundw
      all_goals first
        | exact ⟨j + 1, q + nq, _, by omega, by go_num, rfl, Lib.hid (by rw [flat_snoc _ _ _ hlt, affT, HF.out, HP.out.1, HP.out.2.1, HP.out.2.2]; simp [HR.out, sideB]), Lib.hid (by rw [HW.out, drewN_two])⟩
        | (simp [intOf]; omega)
    · obtain rfl : j = x.affixes.length := by omega
      have HR1 : Hid (r.data.toList = x.affixes.flatMap affT ++ (x.stems.take 0).flatMap stmT) := Lib.hid (by rw [HR.out, flat_all]; simp)
      clear HR
      go_wp2
      go_loopw [3, 7] (fun out i wr => ∃ (j q : Nat) (r : ByteArray), j ≤ x.stems.length ∧ i = .int .i64 (j : Int) ∧ out = .string r ∧ Hid (r.data.toList = x.affixes.flatMap affT ++ (x.stems.take j).flatMap stmT) ∧ Hid (wr = w.drewN q)) (fun _ i _ => x.stems.length - (intOf i).toNat)
      case atStart => exact ⟨0, q, r, by omega, rfl, rfl, HR1, HW⟩
      case round =>
        obtain ⟨j, q, r, hj, rfl, rfl, HR, HW⟩ := hrel
        have h02 : wr.cell? ⟨g, 0, none⟩ = some (.slice a1 x.affixes.length k1) := by rw [HW.out]; exact h0
        have h12 : wr.cell? ⟨g, 1, none⟩ = some (.slice a2 x.stems.length k2) := by rw [HW.out]; exact h1
        have hrs : r.size ≤ 5976 := by
          rw [ba_size HR.out, List.length_append, ← flat_all affT]
          have := affs_le HS.out x.affixes.length
          have := stms_le HS.out j
          omega
        by_cases hlt : j < x.stems.length
        · obtain ⟨b2, o2, u, rfl, e0, e1, -, hu⟩ := HC2.out j hlt
          obtain ⟨ua, uc, rfl, hul, huc, hcu⟩ := hu.shape
          have hM := HS.out.sts j hlt
          have hs0 := hM.w.2
          have hsu := hM.u
          have HM := Lib.hid hM
          have HCU := Lib.hid hcu
          have e0 : wr.cell? ⟨b2, o2 + j * 2, none⟩ = some (.string x.stems[j].word) := by rw [HW.out]; exact e0
          have E1 := Lib.hid e1
          have e1 : wr.cell? ⟨b2, o2 + j * 2 + 1, none⟩ = some (.slice ua x.stems[j].uses.length uc) := by rw [HW.out]; exact e1
          unfold maxLen at huc
          clear hM hu hcu
          have HR2 : Hid ((r ++ (({ data := #[115, 116, 101, 109, 32] } : ByteArray) ++ x.stems[j].word)).data.toList = x.affixes.flatMap affT ++ (x.stems.take j).flatMap stmT ++ ([115, 116, 101, 109, 32] ++ x.stems[j].word.data.toList) ++ usesT (x.stems[j].uses.take 0)) := Lib.hid (by simp [HR.out, usesT])
          go_wp2
          go_loopw [3, 8] (fun out i wr => ∃ (k q : Nat) (r : ByteArray), k ≤ x.stems[j].uses.length ∧ i = .int .i64 (k : Int) ∧ out = .string r ∧ Hid (r.data.toList = x.affixes.flatMap affT ++ (x.stems.take j).flatMap stmT ++ ([115, 116, 101, 109, 32] ++ x.stems[j].word.data.toList) ++ usesT (x.stems[j].uses.take k)) ∧ Hid (wr = w.drewN q)) (fun _ i _ => x.stems[j].uses.length - (intOf i).toNat)
          case atStart => exact ⟨0, q, _, by omega, rfl, rfl, HR2, HW⟩
          case round =>
            clear HR HR2 e0 e1 h02 h12 HW
            obtain ⟨k, q, r, hk, rfl, rfl, HR, HW⟩ := hrel
            have h12 : wr.cell? ⟨g, 1, none⟩ = some (.slice (some ⟨b2, o2, none⟩) x.stems.length k2) := by rw [HW.out]; exact h1
            have e1 : wr.cell? ⟨b2, o2 + j * 2 + 1, none⟩ = some (.slice ua x.stems[j].uses.length uc) := by rw [HW.out]; exact E1.out
            have hrs : r.size ≤ 7000 := by
              rw [ba_size HR.out]
              have h1 := affs_le HS.out x.affixes.length
              have h2 := stms_le HS.out j
              have h3 := usesT_le (l := x.stems[j].uses.take k) fun y hy => (HM.out.n y (List.mem_of_mem_take hy)).2
              rw [flat_all] at h1
              have h4 := HM.out.u
              have h5 := HM.out.w
              rw [List.length_take] at h3
              simp only [List.length_append, List.length_cons, List.length_nil, Array.length_toList] at h1 h2 h3 ⊢
              have h6 : x.stems[j].word.data.size ≤ 12 := h5.2
              omega
            by_cases hkl : k < x.stems[j].uses.length
            · obtain ⟨b3, o3, rfl, hc3, -⟩ := HCU.out k hkl
              have hc3 : wr.cell? ⟨b3, o3 + k, none⟩ = some (.string x.stems[j].uses[k]) := by rw [HW.out]; exact hc3
              have hus := (HM.out.n x.stems[j].uses[k] (List.getElem_mem _)).2
              go_wp2
              go_roundw
              case rel => exact ⟨k + 1, q, _, by omega, by go_num, rfl, Lib.hid (by unfold usesT; rw [flat_snoc _ _ _ hkl]; simp [HR.out, usesT]), HW⟩
              case measure => simp [intOf]; omega
            · obtain rfl : k = x.stems[j].uses.length := by omega
              have HR3 : Hid ((r ++ ({ data := #[10] } : ByteArray)).data.toList = x.affixes.flatMap affT ++ (x.stems.take (j + 1)).flatMap stmT) := Lib.hid (by rw [flat_snoc _ _ _ hlt, stmT]; simp [HR.out])
              clear HR
              go_wp2
              go_roundw
              case rel => exact ⟨j + 1, q, _, by omega, by go_num, rfl, HR3, HW⟩
              case measure => simp [intOf]; omega
        · obtain rfl : j = x.stems.length := by omega
          go_wp2
          go_ret
          exact ⟨ret_str (by rw [ba_eq HR.out, flat_all]; rfl), q, HW.out⟩
set_option maxHeartbeats 1000000 in
theorem specGrammarText_any (v : Value) (x : GraD) (w : World) (hv : GraR w v x) (_hM : MaxL w) :
    Calls Tryd.prog 24 #[v] w fun e w' => e = .returned (.string (gtV x)) ∧ Below w.heap.size w w' := by
  obtain ⟨s1, s2, rfl, ha, hs⟩ := hv
  have hb0 : Below w.heap.size w (w.alloc (.cells #[s1, s2] 31)) := (Below.refl _ _).alloc (Nat.le_refl _) _
  have HB : Hid (GraBox (w.alloc (.cells #[s1, s2] 31)) w.heap.size s1 s2 x) := Lib.hid ⟨cell_newi w _ _ 0 _ rfl, cell_newi w _ _ 1 _ rfl, ha.below hb0, hs.below hb0⟩
  have HB0 := Lib.hid hb0
  obtain ⟨a1, c1, rfl, _⟩ := ha.shape
  obtain ⟨a2, c2, rfl, _⟩ := hs.shape
  clear ha hs hb0
  cases hg : graB x
  · have Hg := Lib.hid hg
    go_enter Tryd.func24, Tryd.ntmps24
    go_wp2_with fail
    refine (l04Ok_any _ _ _ x _ HB.out).mono ?_
    rw [hg]
    rintro e w1 ⟨rfl, q, rfl⟩
    go_wp2
    go_ret
    exact ⟨ret_str (gtV_no Hg.out).symm, below_drewN HB0.out q⟩
  · have Hg := Lib.hid hg
    go_enter Tryd.func24, Tryd.ntmps24
    go_wp2_with fail
    refine (l04Ok_any _ _ _ x _ HB.out).mono ?_
    rw [hg]
    rintro e w1 ⟨rfl, q, hw1⟩
    have HB1 : Hid (GraBox w1 w.heap.size (.slice a1 x.affixes.length c1) (.slice a2 x.stems.length c2) x) := Lib.hid (by rw [hw1]; exact HB.out.drewN q)
    have HBx : Hid (Below w.heap.size w w1) := Lib.hid (by rw [hw1]; exact below_drewN HB0.out q)
    clear hw1 HB hg
    go_wp2_with fail
    refine (l04Text_any _ _ _ x _ HB1.out (graS Hg.out)).mono ?_
    rintro e w2 ⟨rfl, q2, rfl⟩
    go_wp2
    go_ret
    exact ⟨ret_str (gtV_yes Hg.out).symm, below_drewN HBx.out q2⟩
end Go.Proofs.YtgefgdkejenhnaaDoor
