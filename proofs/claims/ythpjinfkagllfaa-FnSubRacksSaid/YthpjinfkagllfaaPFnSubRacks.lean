/- FnSubRacks returns true for all bytes: a rack has as many sub-racks as there are ways to keep some of each kind of tile, and what is left is one of them, too. No condition. -/
import Derived.Test.YthpjinfkagllfaaF
import Derived.Test.YthpjinfkagllfaaFsL
import Derived.Test.YthpjinfkagllfaaRkW
import Derived.Test.YthpjinfkagllfaaBy
set_option linter.unusedSimpArgs false
namespace Go.Proofs.Ythpjinfkagllfaa
open Go.RowKit
theorem ub_int {x y : UInt8} {b : Bool} (h : (x == y) = b) : (((x.toNat : Nat) : Int) == ((y.toNat : Nat) : Int)) = b := by
  subst h
  by_cases e : x = y
  · subst e; simp
  · have h1 : (x == y) = false := by rw [beq_eq_false_iff_ne]; exact e
    rw [h1, beq_eq_false_iff_ne]
    intro h2; exact e (UInt8.toNat_inj.1 (by omega))
section
attribute [local irreducible] Calls
set_option maxHeartbeats 1000000 in
theorem a2Rack_any (v : Value) (bs : List UInt8) (w : World) (hv : BytesR w v bs) (hl : bs.length ≤ 3000) :
    Calls Try.prog 16 #[v] w fun e w' => ∃ a : ByteArray, e = .returned (.string a) ∧ isPile a = true ∧ a.size ≤ 6 ∧ Below w.heap.size w w' := by
  obtain ⟨pa, pc, rfl, -, -⟩ := hv.shape
  go_enter Try.func16, Try.ntmps16
  go_wp2_with fail
  refine (l00From_any _ bs w hv (by omega)).mono ?_
  rintro e w1 ⟨rfl, hs1, hb1⟩
  go_wp2_with fail
  refine (l03Draw_any _ bs 0 6 _ _ hs1 (by omega) rfl (by omega)).mono ?_
  rintro e w2 ⟨a, k2, rfl, ha, hal, hk2, hs2, hkk2⟩
  have hb2 := hb1.trans (hkk2.below (Nat.le_refl _) hb1.size)
  go_wp2
  go_ret
  exact ⟨a, rfl, ha, hal, hb2⟩
set_option maxHeartbeats 8000000 in
set_option maxRecDepth 20000 in
theorem fnSubRacks_walk (w : World) (v0 : Value) (x0 : List UInt8) (hv0 : BytesR w v0 x0) :
    Calls Try.prog 5 #[v0] w fun e w' => e = .returned (.bool true) ∧ Below w.heap.size w w' := by
  have HV := Lib.hid hv0
  obtain ⟨pa, pc, rfl, hcl, hcm⟩ := hv0.shape
  clear hv0
  by_cases hlong : 3000 < x0.length
  · go_enter Try.func5, Try.ntmps5
    go_wp2_with fail
    refine (a2Long_any _ _ _ _ _ _ _ (by omega) (by decide)).mono ?_
    rw [decide_eq_true (.inl hlong)]
    rintro e w1 ⟨rfl, rfl⟩
    go_wp2
    go_ret
    exact ⟨rfl, Below.refl _ _⟩
  · go_enter Try.func5, Try.ntmps5
    go_wp2_with fail
    refine (a2Long_any _ _ _ _ _ _ _ (by omega) (by decide)).mono ?_
    rw [decide_eq_false (by omega)]
    rintro e w1 ⟨rfl, rfl⟩
    go_wp2_with fail
    refine (a2Rack_any _ x0 _ HV.out (by omega)).mono ?_
    rintro e w1 ⟨a, rfl, ha, hal, hb1⟩
    have hrk : isRack a = true := by simp only [isRack, ha, Bool.true_and, decide_eq_true_eq]; omega
    obtain ⟨hL, he⟩ := subLaw hrk
    obtain ⟨L, hLL⟩ : ∃ L, L = srV a := ⟨_, rfl⟩
    rw [← hLL] at hL
    clear ha HV hlong hcl hcm
    go_wp2_with fail
    refine (implSubRacks_any a _ (by omega)).mono ?_
    rw [he, ← hLL]
    rintro e w2 ⟨v, rfl, hv, hb2⟩
    have HB := Lib.hid (hb1.trans (hb2.mono hb1.size))
    have hsz2 := HB.out.size
    have hs := hv.read
    obtain ⟨ad, c, rfl, hl, hc, hcs⟩ := hs.shape
    unfold maxLen at hc
    have HC := Lib.hid hcs
    have HL := Lib.hid hL
    have hn128 := hL.small
    obtain ⟨f, hf⟩ : ∃ f, f = cntOf a.data.toList := ⟨_, rfl⟩
    have Hp : Hid (a.data.toList = pileTo f 27) := Lib.hid (by rw [hf]; exact hL.pile)
    have Hn : Hid (L.length = prodTo f 27) := Lib.hid (by rw [hf]; exact hL.len)
    have hcell : ∀ (wr : World) (j : Nat) (hj : j < L.length), Below w2.heap.size w2 wr → ∃ b off, ad = some ⟨b, off, none⟩ ∧ wr.cell? ⟨b, off + j, none⟩ = some (.string L[j]) := fun wr j hj hb => by
      obtain ⟨b, off, e, h, -⟩ := HC.out j hj
      exact ⟨b, off, e, (hb.cell (cell_lt h)).trans h⟩
    have Hcell := Lib.hid hcell
    clear hf hL hLL hv hs hcs hb1 hb2 he hrk HC hcell
    have hpl : a.data.toList.length = a.size := Array.length_toList
    have Hpl := Lib.hid hpl
    clear hpl
    go_wp2
    go_loopw [6, 7] (fun W i wr => ∃ i' W' : Nat, i' ≤ a.size ∧ W = .int .i64 (W' : Int) ∧ i = .int .i64 (i' : Int) ∧ RunAt f i' W' ∧ Below w2.heap.size w2 wr) (fun _ i _ => a.size - (intOf i).toNat)
    case atStart => exact ⟨0, 1, by omega, rfl, rfl, RunAt.start f, Below.refl _ _⟩
    case round =>
      obtain ⟨i, W, hi, rfl, rfl, hrun, hb⟩ := hrel
      have Hb := Lib.hid hb
      by_cases hlt : i < a.size
      · obtain ⟨n, hn1, hn2, hrun2, heq, hne⟩ := hrun.run Hp.out hlt
        have hle := hrun2.le
        rw [← Hn.out] at hle
        obtain ⟨kk, hkk⟩ : ∃ kk, kk = i + n := ⟨_, rfl⟩
        obtain ⟨V, hV⟩ : ∃ V, V = W * (n + 1) := ⟨_, rfl⟩
        have hmul : (W : Int) * ((kk : Int) - (i : Int) + 1) = (V : Int) := by
          rw [hV, hkk]; push_cast; congr 1; omega
        have hV128 : V ≤ 128 := by rw [hV]; omega
        have Hrun2 := Lib.hid hrun2
        have Heq := Lib.hid heq
        have Hne := Lib.hid hne
        have HVV := Lib.hid hV
        have HKK := Lib.hid hkk
        have hk6 : kk ≤ 6 := by omega
        have HW : W ≤ 128 := Nat.le_trans (Nat.le_mul_of_pos_right W (show 0 < n + 1 by omega)) (by omega)
        clear hrun hrun2 heq hne hb hle hV hkk
        go_wp2
        go_loopw [8] (fun k wq => ∃ k' : Nat, i ≤ k' ∧ k' ≤ kk ∧ k = .int .i64 (k' : Int) ∧ Below w2.heap.size w2 wq) (fun k _ => kk - (intOf k).toNat)
        case atStart => exact ⟨i, by omega, by have := HKK.out; omega, rfl, Hb.out⟩
        case round =>
          obtain ⟨k, hk1, hk2, rfl, hbq⟩ := hrel
          by_cases hk : k < kk
          · have hka : k < a.size := by have := HKK.out; omega
            have hq := ub_int (Heq.out k hka hk1 (by have := HKK.out; omega))
            go_wp2
            go_quiet (fail)
            go_wp2
            go_roundw
            case rel => exact ⟨k + 1, by omega, by omega, by go_num, below_drewN hbq _⟩
            case measure => simp [intOf]; omega
          · obtain rfl : k = kk := by omega
            have Hbq := Lib.hid hbq
            by_cases hka : k < a.size
            · have hq : (((a[k].toNat : Nat) : Int) == ((a[i].toNat : Nat) : Int)) = false := by have := HKK.out; subst this; exact ub_int (Hne.out hka)
              clear hbq
              go_wp2
              go_quiet (fail)
              go_wp2
              go_roundw
              case rel => exact ⟨k, V, by have := HKK.out; omega, by go_num, rfl, by rw [HVV.out, HKK.out]; exact Hrun2.out, below_drewN Hbq.out _⟩
              case measure => have := HKK.out; simp [intOf]; omega
            · clear hbq
              go_wp2
              go_quiet (fail)
              go_wp2
              go_roundw
              case rel => exact ⟨k, V, by have := HKK.out; omega, by go_num, rfl, by rw [HVV.out, HKK.out]; exact Hrun2.out, below_drewN Hbq.out _⟩
              case measure => have := HKK.out; simp [intOf]; omega
      · obtain rfl : i = a.size := by omega
        have hW : W = L.length := by
          rw [Hn.out]
          refine RunAt.fin (f := f) ?_
          rw [← Hp.out, Hpl.out]; exact hrun
        subst hW
        clear hb hrun
        go_wp2
        go_loopw [9] (fun i wr => ∃ i' : Nat, i' ≤ L.length ∧ i = .int .i64 (i' : Int) ∧ Below w2.heap.size w2 wr) (fun i _ => L.length - (intOf i).toNat)
        case atStart => exact ⟨0, by omega, rfl, Hb.out⟩
        case round =>
          obtain ⟨i, hi2, rfl, hb⟩ := hrel
          by_cases hlt2 : i < L.length
          · obtain ⟨b1, o1, rfl, hc1⟩ := Hcell.out _ i hlt2 hb
            obtain ⟨r, htk, hr, hrs⟩ := HL.out.rest L[i] (List.getElem_mem _)
            have hmx := HL.out.max L[i] (List.getElem_mem _)
            have Hr := Lib.hid hr
            have Hb2 := Lib.hid hb
            clear hr
            go_wp2_with fail
            refine (implTakeTiles_any a L[i] _ (by omega) (by omega)).mono ?_
            rw [htk]
            rintro e w3 ⟨rfl, hb3⟩
            have Hb3 := Lib.hid (Hb2.out.trans (hb3.mono Hb2.out.size))
            clear hb3 hb htk hc1
            go_wp2
            go_loopw [12, 13] (fun fd k wq => ∃ (k' : Nat) (sb : Bool), k' ≤ L.length ∧ k = .int .i64 (k' : Int) ∧ fd = .bool sb ∧ Hid (sb = seenB L k' r) ∧ Below w2.heap.size w2 wq) (fun _ k _ => L.length - (intOf k).toNat)
            case atStart => exact ⟨0, false, by omega, rfl, rfl, Lib.hid rfl, Hb3.out⟩
            case round =>
              obtain ⟨k, sb, hk, rfl, rfl, Hsb, hbq⟩ := hrel
              have Hbq := Lib.hid hbq
              by_cases hkl : k < L.length
              · obtain ⟨b1', o1', e1, hck⟩ := Hcell.out _ k hkl hbq
                cases e1
                obtain ⟨q, hq⟩ : ∃ q, q = (L[k].toList == r.toList) := ⟨_, rfl⟩
                have Hq := Lib.hid hq
                have hq2 := hq.symm
                clear hq hbq
                cases sb <;> cases q
                all_goals
                  go_wp2
                  go_roundw
                  case rel => exact ⟨k + 1, _, by omega, by go_num, rfl, Lib.hid (by rw [seenB_succ hkl, ← Hsb.out, ← Hq.out]; rfl), below_drewN Hbq.out 0⟩
                  case measure => simp [intOf]; omega
              · obtain rfl : k = L.length := by omega
                have hsb : sb = true := by rw [Hsb.out]; exact seenB_all Hr.out
                subst hsb
                clear hbq
                by_cases h0 : 0 < i
                · obtain ⟨j, rfl⟩ : ∃ j, i = j + 1 := ⟨i - 1, by omega⟩
                  obtain ⟨b1', o1', e1, hc2⟩ := Hcell.out _ j (by omega) Hbq.out
                  cases e1
                  obtain ⟨b1', o1', e1, hc3⟩ := Hcell.out _ (j + 1) hlt2 Hbq.out
                  cases e1
                  have hmx2 := HL.out.max L[j] (List.getElem_mem _)
                  have hj0 : (0 : Int) ≤ (j : Int) := by omega
                  have hj1 : (0 : Int) ≤ (j : Int) + 1 := by omega
                  have hj2 : (j : Int) + 1 < (L.length : Int) := by omega
                  have hj3 : (j : Int) < (L.length : Int) := by omega
                  have hj4 : (0 : Int) < (j : Int) + 1 := by omega
                  rcases HL.out.asc j hlt2 with hs1 | ⟨hs1, hs2⟩
                  · have hx1 : ¬ ((L[j + 1].size : Int) < (L[j].size : Int)) := by omega
                    have hx2 : (((L[j + 1].size : Nat) : Int) == ((L[j].size : Nat) : Int)) = false := by rw [beq_eq_false_iff_ne]; omega
                    have hx3 : decide (L[j + 1].size < L[j].size) = false := by rw [decide_eq_false_iff_not]; omega
                    have hx4 : (L[j + 1].size == L[j].size) = false := by rw [beq_eq_false_iff_ne]; omega
                    clear hs1
                    go_wp2
                    go_quiet (fail)
                    go_wp2
                    go_roundw
                    case rel => exact ⟨j + 1 + 1, by omega, by go_num, below_drewN Hbq.out _⟩
                    case measure => simp [intOf]; omega
                  · have hx1 : ¬ ((L[j + 1].size : Int) < (L[j].size : Int)) := by omega
                    have hx2 : (((L[j + 1].size : Nat) : Int) == ((L[j].size : Nat) : Int)) = true := by rw [beq_iff_eq]; omega
                    have hx3 : decide (L[j + 1].size < L[j].size) = false := by rw [decide_eq_false_iff_not]; omega
                    have hx5 : (L[j + 1].size == L[j].size) = true := by rw [beq_iff_eq]; omega
                    rcases bl_tri L[j].toList L[j + 1].toList with ⟨hy1, hy2, hy3, hy4⟩ | ⟨hy1, _⟩ | ⟨hy1, _⟩
                    · clear hs1 hs2
                      go_wp2
                      go_quiet (fail)
                      go_wp2
                      go_roundw
                      case rel => exact ⟨j + 1 + 1, by omega, by go_num, below_drewN Hbq.out _⟩
                      case measure => simp [intOf]; omega
                    · rw [hy1] at hs2; cases hs2
                    · rw [hy1] at hs2; cases hs2
                · obtain rfl : i = 0 := by omega
                  go_wp2
                  go_quiet (fail)
                  go_wp2
                  go_roundw
                  case rel => exact ⟨0 + 1, by omega, by go_num, below_drewN Hbq.out _⟩
                  case measure => simp [intOf]; omega
          · obtain rfl : i = L.length := by omega
            have Hb2 := Lib.hid hb
            clear hb
            go_wp2
            go_ret
            exact ⟨rfl, HB.out.trans (Hb2.out.mono hsz2)⟩
end
namespace fnSubRacks
open Go.ChangeShapes Go.WideShapes Go.ChangeAt Go.RowKit
open Go.ChangeMaps (open_string shut_string)
set_option maxRecDepth 100000 in
theorem lifted (os : Os) (started : os.Started) (H : Type) (enc : TypeId × Value → H) :
    ReturnsInHanded {} Try.checked os 5 .any (Rows.fnSubRacksSpec.pre6 enc Try.prog Try.f5 Rows.fnSubRacksRow.domain false) (Rows.fnSubRacksSpec.post enc Try.prog Try.f5 false true false false) := by
  refine returnsInHanded_of_change (C := Try.checked) Try.own started (by kernel_rfl) Try.func5
    (ChangeSpec.witness6 (enc := enc) (C := Try.checked) false ⟨#[], #[.slice none 0 0], []⟩ 8 (by kernel_rfl) (by kernel_rfl) (by kernel_rfl) (by kernel_rfl)) ?_
  intro W base args ds gs before hval0 hW hcnd _
  have hval : ∀ (j : Nat) t v, Try.f5.params[j]? = some t → args[j]? = some v → Value.okWide Try.prog W .any base t v := hval0
  have hW' := hW
  obtain ⟨p, q, hA0, hV, rfl, hfz, hnd⟩ := hW
  have hA : DataW.TrodAll enc Try.prog W 0 (fun _ => true) true Try.f5.params.toList args.toList ds p := hA0
  rw [Try.params5] at hA hval
  obtain ⟨v0, vs0, d0, ds0, p0, q0, hargs, rfl, rfl, h0, r0⟩ := trodAll_cons hA
  obtain ⟨rfl, rfl, rfl⟩ := trodAll_nil r0
  obtain rfl : args = #[v0] := by cases args; simp_all
  obtain ⟨rfl, rfl⟩ := trodVars_none hV
  obtain ⟨a0, w0⟩ := open_bytes (hval 0 30 v0 rfl rfl) h0
  refine (fnSubRacks_walk v0 a0 w0 (w := W)).mono fun e W' ⟨he, hg⟩ => ?_
  subst he
  exact ⟨_, rfl, law_post Try.laidOut (by kernel_rfl) (by kernel_rfl) Try.underlying4 rfl rfl hW' hg⟩

theorem over : Rows.fnSubRacksRow.holds Try.pinned (OpenSpec.ofChange Rows.fnSubRacksSpec) :=
  OpenClaim.holds_of_wide 5 Try.f5 rfl rfl rfl rfl rfl rfl rfl ⟨rfl, rfl, rfl, rfl, rfl⟩ rfl rfl rfl rfl rfl (by kernel_rfl) Try.func5 (by kernel_rfl)
    (of_decide_eq_true (by kernel_rfl)) (by unfold Func.isWrapper; first | (rw [if_pos (by decide +kernel)]; kernel_rfl) | (rw [if_neg (by decide +kernel)]; exact ⟨rfl, rfl⟩))
    (fun os started H enc _ => lifted os started H enc)

theorem proved : Rows.FnSubRacksSaid := over
end fnSubRacks

end Go.Proofs.Ythpjinfkagllfaa
