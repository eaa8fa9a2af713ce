/- A drawn tile set: l02Draw, A2Tiles. Condition: few choices so far. -/
import Derived.Test.YtinmmbnlflmobaaGreatDoorDd
import Derived.Deep.DeepCutAuto
set_option linter.unusedSimpArgs false
namespace Go.Proofs.YtinmmbnlflmobaaGreatDoor
open Go.RowKit
def stdNames : List ByteArray := [⟨#[101, 110, 103, 108, 105, 115, 104]⟩, ⟨#[115, 109, 97, 108, 108]⟩]
theorem int_oneD {n : Int} : ∀ u ∈ [Value.int .i64 n], u.oneCell' = true := by
  intro u hu
  rw [List.mem_singleton.1 hu]; rfl
theorem one_belowD (w : World) (a : Obj) : Below w.heap.size w (w.alloc a) := (Below.refl _ _).alloc (Nat.le_refl _) a
theorem new_cellsD (w : World) (cs : Array Value) (t : TypeId) (l : List Value) (h : l = cs.toList) : ∀ j u, l[j]? = some u → (w.alloc (.cells cs t)).cell? ((⟨w.heap.size, 0, none⟩ : Addr).add j) = some u := by
  subst h
  exact World.news_of_block (w := w.alloc (.cells cs t)) (heap_alloc_new w (.cells cs t))
theorem cell_allocD {w : World} {a : Addr} {x : Value} (o : Obj) (h : w.cell? a = some x) : (w.alloc o).cell? a = some x :=
  (World.cell?_alloc_lt _ _ _ (World.block_lt_of_cell? w a h)).trans h
attribute [local irreducible] Calls
theorem stdNames_made (w : World) : Calls Tryz.prog 32 #[] w fun e w' => e = .returned (.slice (some ⟨w.heap.size, 0, none⟩) 2 2) ∧ w' = w.alloc (.cells (stdNames.map Value.string).toArray 9) := by
  go_enter Tryz.func32, Tryz.ntmps32
  go_wp2
  go_ret
  exact ⟨rfl, rfl⟩
theorem std_tilP {s : ByteArray} (h : s ∈ stdNames) : TilP (stV s) := by
  have key : ∀ t, rtB t = true → stT s = t → TilP (stV s) := fun t h1 h2 => by
    unfold stV
    rw [h2]
    unfold rtB at h1
    unfold rtV
    cases e : readT t.data.toList with
    | none => rw [e] at h1; cases h1
    | some x => exact readT_Q e
  simp only [stdNames, List.mem_cons, List.not_mem_nil, or_false] at h
  rcases h with rfl | rfl
  · exact key _ rtB_eng rfl
  · exact key _ rtB_sma rfl
set_option maxHeartbeats 16000000 in
set_option maxRecDepth 100000 in
theorem l02Draw_any (w0 : World) (g : Nat) (bs : List UInt8) (k : Nat) (w : World) (hs : SrcW w g bs k) (hk : k ≤ 1000) (hML : MaxL w0) (hTab : TabP w0) (hErr : ErrV w0) (h0 : Below w0.heap.size w0 w) (hg0 : w0.heap.size ≤ g) :
    Calls Tryz.prog 15 #[.pointer (some ⟨g, 0, none⟩)] w fun e w' => ∃ v : Value, e = .returned v ∧ (∃ x : TileD, TilW w' w.heap.size w'.heap.size v x ∧ TilP x) ∧ Kept g (g + 1) w w' := by
  have hgl := hs.lt
  have hz0 := h0.size
  have H0 := Lib.hid h0
  have HML := Lib.hid hML
  have HTab := Lib.hid hTab
  have HErr := Lib.hid hErr
  have hb0 : Below w.heap.size w (w.alloc (.cells #[.string ⟨#[]⟩, .slice none 0 0, .slice none 0 0, .int .i64 0] 26)) := one_belowD _ _
  have HB0 := Lib.hid hb0
  have rA := heap_alloc_new w (.cells #[.string ⟨#[]⟩, .slice none 0 0, .slice none 0 0, .int .i64 0] 26)
  clear hML hTab hErr h0
  go_enter Tryz.func15, Tryz.ntmps15
  go_wp2_with fail
  refine (one_any g bs k 3 _ _ (hs.below hb0) (by omega) rfl (by omega)).mono ?_
  rintro e w1 ⟨b, k1, rfl, hk1, hs1, hkk1⟩
  have hkk1 : Kept g (g + 1) (w.alloc (.cells #[.string ⟨#[]⟩, .slice none 0 0, .slice none 0 0, .int .i64 0] 26)) w1 := hkk1
  have hz1 : w.heap.size + 1 ≤ w1.heap.size := by have := hkk1.size; simpa using this
  have HRes := Lib.hid ((hkk1.block w.heap.size (by simp) (.inr (by omega))).trans rA)
  have K1 := Lib.hid ((Kept.of_below (lo := g) (hi := g + 1) HB0.out).trans hkk1)
  have HS1 := Lib.hid hs1
  clear hs hkk1 hs1 rA hb0
  cases b
  · go_wp2_with fail
    refine (pick_any g bs k1 3 _ _ HS1.out (by omega) rfl (by omega)).mono ?_
    rintro e w2 ⟨r, k2, rfl, hr, hk2, hs2, hkk2⟩
    have hz2 := hkk2.size
    have hb3 : Below w2.heap.size w2 (w2.alloc (.cells #[.string ⟨#[]⟩, .slice none 0 0, .slice none 0 0, .int .i64 (r : Int)] 26)) := one_belowD _ _
    have HG0 : Hid (TG (w2.alloc (.cells #[.string ⟨#[]⟩, .slice none 0 0, .slice none 0 0, .int .i64 (r : Int)] 26)) (w2.heap.size + 1) w2.heap.size (.slice none 0 0) (.slice none 0 0) ⟨#[]⟩ [] [] (r : Int)) := Lib.hid (TG.start (heap_alloc_new w2 _) (by omega))
    have HRx := Lib.hid ((hb3.block w.heap.size (by omega)).trans ((hkk2.block w.heap.size (by omega) (.inr (by omega))).trans HRes.out))
    have Kx := Lib.hid ((K1.out.trans hkk2).trans (Kept.of_below hb3))
    have HSx := Lib.hid (hs2.below hb3)
    have hzx : w2.heap.size + 1 ≤ (w2.alloc (.cells #[.string ⟨#[]⟩, .slice none 0 0, .slice none 0 0, .int .i64 (r : Int)] 26)).heap.size := by simp
    have HD0 : Hid (DrP ⟨#[]⟩ [] [] (r : Int) 97) := Lib.hid (DrP.start (by omega))
    clear hkk2 hb3 hs2
    go_wp2
    generalize w2.alloc (.cells #[.string ⟨#[]⟩, .slice none 0 0, .slice none 0 0, .int .i64 (r : Int)] 26) = wx at HG0 HRx Kx HSx hzx ⊢
    go_loopw [6] (fun i wr => ∃ (c kr : Nat) (v1 v2 : Value) (L : ByteArray) (V C : List Int), 97 ≤ c ∧ c ≤ 123 ∧ i = .int .u8 (c : Int) ∧ kr + 6 * (123 - c) ≤ 2000 ∧ Hid (SrcW wr g bs kr) ∧ Hid (TG wr (w2.heap.size + 1) w2.heap.size v1 v2 L V C (r : Int)) ∧ Hid (DrP L V C (r : Int) c) ∧ Hid (KeepD (w2.heap.size + 1) w2.heap.size g wx wr)) (fun i _ => 123 - (intOf i).toNat)
    case atStart => exact ⟨97, k2, _, _, _, _, _, by omega, by omega, rfl, by omega, HSx, HG0, HD0, Lib.hid (KeepD.refl _ _ _ _)⟩
    case round =>
      clear HG0 HSx HD0
      obtain ⟨c, kr, v1, v2, L, V, C, hc1, hc2, rfl, hkr, HSr, HGr, HDr, HKr⟩ := hrel
      have hszr := HKr.out.size
      by_cases hlt : c ≤ 122
      · have hltI : (c : Int) ≤ 122 := by omega
        by_cases h102 : 102 < c
        · have h102I : (102 : Int) < (c : Int) := by omega
          go_wp2_with fail
          refine (one_any g bs kr 3 _ _ HSr.out (by omega) rfl (by omega)).mono ?_
          rintro e w5 ⟨b, k5, rfl, hk5, hs5, hkk5⟩
          have HG5 := Lib.hid (HGr.out.kept hkk5 (by omega))
          have HS5 := Lib.hid hs5
          have HK5 := Lib.hid (HKr.out.trans (KeepD.of_kept hkk5 (by omega)))
          have hsz5 := HK5.out.size
          clear hkk5 hs5
          cases b
          · go_wp2
            go_roundw
            case rel => exact ⟨c + 1, k5, v1, v2, L, V, C, by omega, by omega, by go_num, by omega, HS5, HG5, Lib.hid (HDr.out.skip (by omega)), HK5⟩
            case measure => simp [intOf]; omega
          · obtain ⟨⟨c0, z0⟩, -, -, -⟩ := HG5.out.cell
            have hLs : L.size ≤ 26 := by have := HDr.out.n2; omega
            have hsum : (9223372036854775807 < L.size + 1) = False := eq_false (by omega)
            have hba := one_belowD w5 (.cells #[.int .u8 (c : Int)] 5)
            have HGa := Lib.hid (HG5.out.below hba)
            obtain ⟨⟨c0a, z0a⟩, -, -, -⟩ := HGa.out.cell
            have HGy := Lib.hid (HGa.out.letters (L ++ ⟨#[UInt8.ofNat c]⟩))
            have HKy := Lib.hid ((HK5.out.trans (KeepD.of_below hba (by omega))).trans (KeepD.of_set (i := 0) (u := .string (L ++ ⟨#[UInt8.ofNat c]⟩))))
            have HSy := Lib.hid ((HS5.out.below hba).low ((kept_setCell (w := w5.alloc (.cells #[.int .u8 (c : Int)] 5)) (lo := w2.heap.size) (hi := w2.heap.size + 1) (g := w2.heap.size) (o := 0) (Nat.le_refl _) (Nat.lt_succ_self _) (.string (L ++ ⟨#[UInt8.ofNat c]⟩))).below (by omega) (by have := hba.size; omega)))
            have hBy : w2.heap.size + 1 ≤ ((w5.alloc (.cells #[.int .u8 (c : Int)] 5)).setCell ⟨w2.heap.size, 0, none⟩ (.string (L ++ ⟨#[UInt8.ofNat c]⟩))).heap.size := by have := HKy.out.size; omega
            have hlv := HDr.out.lv
            have hlc := HDr.out.lc
            have HL := Lib.hid hlv
            have HL2 := Lib.hid hlc
            have hV26 : V.length ≤ 26 := by omega
            have hC26 : C.length ≤ 26 := by omega
            clear hlv hlc hba
            go_upto_region 10 with fail
            clear c0 z0 c0a z0a HGa
            generalize (w5.alloc (.cells #[.int .u8 (c : Int)] 5)).setCell ⟨w2.heap.size, 0, none⟩ (.string (L ++ ⟨#[UInt8.ofNat c]⟩)) = wy at HGy HKy HSy hBy ⊢
            obtain ⟨iI, hi, hzA0, hzA1, hzA2⟩ := info_parts infoI64
            go_cut [6] (fun s6 wz => s6 = .int .u8 (c : Int) ∧ ∃ (r6 k6 : Nat) (u1 : Value), r6 ≤ 11 ∧ k6 ≤ k5 + 2 ∧ SrcW wz g bs k6 ∧ TG wz (w2.heap.size + 1) w2.heap.size u1 v2 (L ++ ⟨#[UInt8.ofNat c]⟩) (V ++ [(r6 : Int)]) C (r : Int) ∧ KeepD (w2.heap.size + 1) w2.heap.size g wx wz ∧ w2.heap.size + 1 ≤ wz.heap.size)
            case first =>
              have hcy := HGy.out.cell.2.1.1
              have hcyd : wy.drew.cell? ⟨w2.heap.size, 1, none⟩ = some v1 := hcy
              obtain ⟨a1, n1, ev1, -, -⟩ := HGy.out.o1.shape
              subst ev1
              refine wp_region_held_drew (S := (fun _ => True)) (by kernel_rfl) ?_ (fun hHeld => ?_)
              · trivial
              refine wpAnyH_take (i := 0) (v := ?v1) rfl (by kernel_rfl) (by kernel_rfl) (by kernel_rfl) (fun _ _ _ h => h) (Or.inl ⟨by kernel_rfl, ?hy1⟩) (by assumption) ?_
              case hy1 => (intro w9 hS9; (try dsimp only at hS9); go_simp; (try with_reducible rfl))
              try simp only [Act.put, List.getElem_toArray, List.getElem_cons_succ, List.getElem_cons_zero, List.setIfInBounds_toArray, List.set_cons_zero, List.set_cons_succ]
              refine wpAnyH_take (i := 2) (v := ?v2) rfl (by kernel_rfl) (by kernel_rfl) (by kernel_rfl) (fun _ _ _ h => h) (Or.inl ⟨by kernel_rfl, ?hy2⟩) (by assumption) ?_
              case hy2 => (intro w9 hS9; (try dsimp only at hS9); go_simp; (try with_reducible rfl))
              try simp only [Act.put, List.getElem_toArray, List.getElem_cons_succ, List.getElem_cons_zero, List.setIfInBounds_toArray, List.set_cons_zero, List.set_cons_succ]
              refine wpAnyH_ready (rs := [1, 3]) (by kernel_rfl) (by simp) ?_
              refine AllReadyH.cons rfl (fun K9 hK9 => ?_) (AllReadyH.cons rfl (fun K9 hK9 => ?_) (AllReadyH.nil))
              · rw [if_pos (by rfl)]
                go_simp
                refine hK9.out _ _ (trivial) (fun hHeld2 => ?_)
                clear hK9 K9
                try simp only [Act.put, List.getElem_toArray, List.getElem_cons_succ, List.getElem_cons_zero, List.setIfInBounds_toArray, List.set_cons_zero, List.set_cons_succ]
                refine wpAnyH_ready (rs := [3]) (by kernel_rfl) (by simp) ?_
                refine AllReadyH.cons rfl (fun K9 hK9 => ?_) AllReadyH.nil
                rw [if_pos (by rfl)]
                go_wp2_with (go_at_call 33; refine (pick_any g bs k5 12 _ _ (HSy.out.below (below_drewN (Below.refl _ _) 1)) (by omega) rfl (by omega)).mono ?_; rintro e w6 ⟨r6, k6, rfl, hr6, hk6, hs6, hkk6⟩)
                have HG6 := Lib.hid ((HGy.out.below (below_drewN (Below.refl _ _) 1)).kept hkk6 (by omega))
                have hB6 : w2.heap.size + 1 ≤ w6.heap.size := Nat.le_trans hBy hkk6.size
                have hc6 := HG6.out.cell.2.1.1
                have HK6 := Lib.hid ((KeepD.of_below (B := w2.heap.size + 1) (gb := w2.heap.size) (g := g) (w := wy) (below_drewN (Below.refl _ _) 1) (by omega)).trans (KeepD.of_kept hkk6 (by exact hBy)))
                refine hK9.out _ _ (trivial) (fun hHeld3 => ?_)
                clear hK9 K9
                try simp only [Act.put, List.getElem_toArray, List.getElem_cons_succ, List.getElem_cons_zero, List.setIfInBounds_toArray, List.set_cons_zero, List.set_cons_succ]
                refine wpAnyH_ready (rs := [4]) (by kernel_rfl) (by simp) ?_
                refine AllReadyH.cons rfl (fun K9 hK9 => ?_) AllReadyH.nil
                rw [if_pos (by rfl)]
                have hc6a := cell_allocD (.cells #[.int .i64 (r6 : Int)] 2) hc6
                go_simp
                refine hK9.out _ _ (trivial) (fun hHeld4 => ?_)
                clear hK9 K9
                try simp only [Act.put, List.getElem_toArray, List.getElem_cons_succ, List.getElem_cons_zero, List.setIfInBounds_toArray, List.set_cons_zero, List.set_cons_succ]
                refine wpAnyH_ready (rs := [5]) (by kernel_rfl) (by simp) ?_
                refine AllReadyH.cons rfl (fun K9 hK9 => ?_) AllReadyH.nil
                refine step_append_lies _ ?_ (.tmp 39) (.tmp 42) 24 ?_ (w2.heap.size + 1) 2 iI (.int .i64 0) 1 8 Tryz.underlying24 hi hzA0 hzA1 hzA2 rfl (by decide) (.slice a1 V.length n1) V.length (V.map (Value.int .i64)) ?_ (OwnI.below HG6.out.o1 (one_belowD w6 _)) ⟨w6.heap.size, 0, none⟩ 1 1 [.int .i64 (r6 : Int)] ?_ rfl (new_cellsD w6 _ _ _ rfl) int_oneD (by decide) (by unfold maxLen; omega) (by omega) (Nat.le_trans hB6 (one_belowD w6 _).size) _ rfl ?_; rfl; rfl; rfl; rfl
                intro gn cap w8 hown8 hgr8 hloc8 hlt8
                obtain ⟨HGn, HKn, hcf, hcz⟩ := HG6.out.value (one_belowD w6 _) hB6 (r6 : Int) gn cap hown8 hgr8 hloc8 w2.heap.size
                refine hK9.out _ _ (trivial) (fun hHeld5 => ?_)
                clear hK9 K9
                try simp only [Act.put, List.getElem_toArray, List.getElem_cons_succ, List.getElem_cons_zero, List.setIfInBounds_toArray, List.set_cons_zero, List.set_cons_succ]
                refine wpAnyH_take (i := 6) (v := ?v3) rfl (by kernel_rfl) (by kernel_rfl) (by kernel_rfl) (fun _ _ _ h => h) (Or.inl ⟨by kernel_rfl, ?hy3⟩) (by assumption) ?_
                case hy3 => (intro w9 hS9; (try dsimp only at hS9); go_simp; (try with_reducible rfl))
                try simp only [Act.put, List.getElem_toArray, List.getElem_cons_succ, List.getElem_cons_zero, List.setIfInBounds_toArray, List.set_cons_zero, List.set_cons_succ]
                refine wpAnyH_ready (rs := [7]) (by kernel_rfl) (by simp) ?_
                refine AllReadyH.cons rfl (fun K9 hK9 => ?_) AllReadyH.nil
                rw [if_pos (by rfl)]
                go_simp
                refine hK9.out _ _ (trivial) (fun hHeld6 => ?_)
                clear hK9 K9
                try simp only [Act.put, List.getElem_toArray, List.getElem_cons_succ, List.getElem_cons_zero, List.setIfInBounds_toArray, List.set_cons_zero, List.set_cons_succ]
                refine wpAnyH_done (by kernel_rfl) ?_ _
                go_wp2_with fail
                go_meet
                exact ⟨rfl, r6, k6, _, by omega, hk6, hs6.low (HKn.low (by omega) (Nat.lt_succ_self _)), HGn, (HKy.out.trans HK6.out).trans HKn.weak, Nat.le_trans hB6 HKn.size⟩
              · rw [if_pos (by rfl)]
                go_wp2_with (go_at_call 33; refine (pick_any g bs k5 12 _ _ (HSy.out.below (below_drewN (Below.refl _ _) 1)) (by omega) rfl (by omega)).mono ?_; rintro e w6 ⟨r6, k6, rfl, hr6, hk6, hs6, hkk6⟩)
                have HG6 := Lib.hid ((HGy.out.below (below_drewN (Below.refl _ _) 1)).kept hkk6 (by omega))
                have hB6 : w2.heap.size + 1 ≤ w6.heap.size := Nat.le_trans hBy hkk6.size
                have hc6 := HG6.out.cell.2.1.1
                have HK6 := Lib.hid ((KeepD.of_below (B := w2.heap.size + 1) (gb := w2.heap.size) (g := g) (w := wy) (below_drewN (Below.refl _ _) 1) (by omega)).trans (KeepD.of_kept hkk6 (by exact hBy)))
                refine hK9.out _ _ (trivial) (fun hHeld2 => ?_)
                clear hK9 K9
                try simp only [Act.put, List.getElem_toArray, List.getElem_cons_succ, List.getElem_cons_zero, List.setIfInBounds_toArray, List.set_cons_zero, List.set_cons_succ]
                refine wpAnyH_ready (rs := [1, 4]) (by kernel_rfl) (by simp) ?_
                refine AllReadyH.cons rfl (fun K9 hK9 => ?_) (AllReadyH.cons rfl (fun K9 hK9 => ?_) (AllReadyH.nil))
                · rw [if_pos (by rfl)]
                  go_simp
                  refine hK9.out _ _ (trivial) (fun hHeld3 => ?_)
                  clear hK9 K9
                  try simp only [Act.put, List.getElem_toArray, List.getElem_cons_succ, List.getElem_cons_zero, List.setIfInBounds_toArray, List.set_cons_zero, List.set_cons_succ]
                  refine wpAnyH_ready (rs := [4]) (by kernel_rfl) (by simp) ?_
                  refine AllReadyH.cons rfl (fun K9 hK9 => ?_) AllReadyH.nil
                  rw [if_pos (by rfl)]
                  have hc6a := cell_allocD (.cells #[.int .i64 (r6 : Int)] 2) hc6
                  go_simp
                  refine hK9.out _ _ (trivial) (fun hHeld4 => ?_)
                  clear hK9 K9
                  try simp only [Act.put, List.getElem_toArray, List.getElem_cons_succ, List.getElem_cons_zero, List.setIfInBounds_toArray, List.set_cons_zero, List.set_cons_succ]
                  refine wpAnyH_ready (rs := [5]) (by kernel_rfl) (by simp) ?_
                  refine AllReadyH.cons rfl (fun K9 hK9 => ?_) AllReadyH.nil
                  refine step_append_lies _ ?_ (.tmp 39) (.tmp 42) 24 ?_ (w2.heap.size + 1) 2 iI (.int .i64 0) 1 8 Tryz.underlying24 hi hzA0 hzA1 hzA2 rfl (by decide) (.slice a1 V.length n1) V.length (V.map (Value.int .i64)) ?_ (OwnI.below HG6.out.o1 (one_belowD w6 _)) ⟨w6.heap.size, 0, none⟩ 1 1 [.int .i64 (r6 : Int)] ?_ rfl (new_cellsD w6 _ _ _ rfl) int_oneD (by decide) (by unfold maxLen; omega) (by omega) (Nat.le_trans hB6 (one_belowD w6 _).size) _ rfl ?_; rfl; rfl; rfl; rfl
                  intro gn cap w8 hown8 hgr8 hloc8 hlt8
                  obtain ⟨HGn, HKn, hcf, hcz⟩ := HG6.out.value (one_belowD w6 _) hB6 (r6 : Int) gn cap hown8 hgr8 hloc8 w2.heap.size
                  refine hK9.out _ _ (trivial) (fun hHeld5 => ?_)
                  clear hK9 K9
                  try simp only [Act.put, List.getElem_toArray, List.getElem_cons_succ, List.getElem_cons_zero, List.setIfInBounds_toArray, List.set_cons_zero, List.set_cons_succ]
                  refine wpAnyH_take (i := 6) (v := ?v4) rfl (by kernel_rfl) (by kernel_rfl) (by kernel_rfl) (fun _ _ _ h => h) (Or.inl ⟨by kernel_rfl, ?hy4⟩) (by assumption) ?_
                  case hy4 => (intro w9 hS9; (try dsimp only at hS9); go_simp; (try with_reducible rfl))
                  try simp only [Act.put, List.getElem_toArray, List.getElem_cons_succ, List.getElem_cons_zero, List.setIfInBounds_toArray, List.set_cons_zero, List.set_cons_succ]
                  refine wpAnyH_ready (rs := [7]) (by kernel_rfl) (by simp) ?_
                  refine AllReadyH.cons rfl (fun K9 hK9 => ?_) AllReadyH.nil
                  rw [if_pos (by rfl)]
                  go_simp
                  refine hK9.out _ _ (trivial) (fun hHeld6 => ?_)
                  clear hK9 K9
                  try simp only [Act.put, List.getElem_toArray, List.getElem_cons_succ, List.getElem_cons_zero, List.setIfInBounds_toArray, List.set_cons_zero, List.set_cons_succ]
                  refine wpAnyH_done (by kernel_rfl) ?_ _
                  go_wp2_with fail
                  go_meet
                  exact ⟨rfl, r6, k6, _, by omega, hk6, hs6.low (HKn.low (by omega) (Nat.lt_succ_self _)), HGn, (HKy.out.trans HK6.out).trans HKn.weak, Nat.le_trans hB6 HKn.size⟩
                · rw [if_pos (by rfl)]
                  have hc6a := cell_allocD (.cells #[.int .i64 (r6 : Int)] 2) hc6
                  go_simp
                  refine hK9.out _ _ (trivial) (fun hHeld3 => ?_)
                  clear hK9 K9
                  try simp only [Act.put, List.getElem_toArray, List.getElem_cons_succ, List.getElem_cons_zero, List.setIfInBounds_toArray, List.set_cons_zero, List.set_cons_succ]
                  refine wpAnyH_ready (rs := [1]) (by kernel_rfl) (by simp) ?_
                  refine AllReadyH.cons rfl (fun K9 hK9 => ?_) AllReadyH.nil
                  rw [if_pos (by rfl)]
                  go_simp
                  refine hK9.out _ _ (trivial) (fun hHeld4 => ?_)
                  clear hK9 K9
                  try simp only [Act.put, List.getElem_toArray, List.getElem_cons_succ, List.getElem_cons_zero, List.setIfInBounds_toArray, List.set_cons_zero, List.set_cons_succ]
                  refine wpAnyH_ready (rs := [5]) (by kernel_rfl) (by simp) ?_
                  refine AllReadyH.cons rfl (fun K9 hK9 => ?_) AllReadyH.nil
                  refine step_append_lies _ ?_ (.tmp 39) (.tmp 42) 24 ?_ (w2.heap.size + 1) 2 iI (.int .i64 0) 1 8 Tryz.underlying24 hi hzA0 hzA1 hzA2 rfl (by decide) (.slice a1 V.length n1) V.length (V.map (Value.int .i64)) ?_ (OwnI.below HG6.out.o1 (one_belowD w6 _)) ⟨w6.heap.size, 0, none⟩ 1 1 [.int .i64 (r6 : Int)] ?_ rfl (new_cellsD w6 _ _ _ rfl) int_oneD (by decide) (by unfold maxLen; omega) (by omega) (Nat.le_trans hB6 (one_belowD w6 _).size) _ rfl ?_; rfl; rfl; rfl; rfl
                  intro gn cap w8 hown8 hgr8 hloc8 hlt8
                  obtain ⟨HGn, HKn, hcf, hcz⟩ := HG6.out.value (one_belowD w6 _) hB6 (r6 : Int) gn cap hown8 hgr8 hloc8 w2.heap.size
                  refine hK9.out _ _ (trivial) (fun hHeld5 => ?_)
                  clear hK9 K9
                  try simp only [Act.put, List.getElem_toArray, List.getElem_cons_succ, List.getElem_cons_zero, List.setIfInBounds_toArray, List.set_cons_zero, List.set_cons_succ]
                  refine wpAnyH_take (i := 6) (v := ?v5) rfl (by kernel_rfl) (by kernel_rfl) (by kernel_rfl) (fun _ _ _ h => h) (Or.inl ⟨by kernel_rfl, ?hy5⟩) (by assumption) ?_
                  case hy5 => (intro w9 hS9; (try dsimp only at hS9); go_simp; (try with_reducible rfl))
                  try simp only [Act.put, List.getElem_toArray, List.getElem_cons_succ, List.getElem_cons_zero, List.setIfInBounds_toArray, List.set_cons_zero, List.set_cons_succ]
                  refine wpAnyH_ready (rs := [7]) (by kernel_rfl) (by simp) ?_
                  refine AllReadyH.cons rfl (fun K9 hK9 => ?_) AllReadyH.nil
                  rw [if_pos (by rfl)]
                  go_simp
                  refine hK9.out _ _ (trivial) (fun hHeld6 => ?_)
                  clear hK9 K9
                  try simp only [Act.put, List.getElem_toArray, List.getElem_cons_succ, List.getElem_cons_zero, List.setIfInBounds_toArray, List.set_cons_zero, List.set_cons_succ]
                  refine wpAnyH_done (by kernel_rfl) ?_ _
                  go_wp2_with fail
                  go_meet
                  exact ⟨rfl, r6, k6, _, by omega, hk6, hs6.low (HKn.low (by omega) (Nat.lt_succ_self _)), HGn, (HKy.out.trans HK6.out).trans HKn.weak, Nat.le_trans hB6 HKn.size⟩
            case rest =>
              obtain ⟨rfl, r7, k7, u1, hr7, hk7, hs7, hg7, hkz, hBc⟩ := hcut
              have HGz := Lib.hid hg7
              have HSz := Lib.hid hs7
              have HKz := Lib.hid hkz
              clear hs7 hg7 hkz
              have hcz := HGz.out.cell.2.2.1.1
              have hczd : wc.drew.cell? ⟨w2.heap.size, 2, none⟩ = some v2 := hcz
              obtain ⟨a2, n2, ev2, -, -⟩ := HGz.out.o2.shape
              subst ev2
              go_upto_region 11 with fail
              refine wp_region_held_drew (S := (fun _ => True)) (by kernel_rfl) ?_ (fun hHeld => ?_)
              · trivial
              refine wpAnyH_take (i := 0) (v := ?v6) rfl (by kernel_rfl) (by kernel_rfl) (by kernel_rfl) (fun _ _ _ h => h) (Or.inl ⟨by kernel_rfl, ?hy6⟩) (by assumption) ?_
              case hy6 => (intro w9 hS9; (try dsimp only at hS9); go_simp; (try with_reducible rfl))
              try simp only [Act.put, List.getElem_toArray, List.getElem_cons_succ, List.getElem_cons_zero, List.setIfInBounds_toArray, List.set_cons_zero, List.set_cons_succ]
              refine wpAnyH_take (i := 2) (v := ?v7) rfl (by kernel_rfl) (by kernel_rfl) (by kernel_rfl) (fun _ _ _ h => h) (Or.inl ⟨by kernel_rfl, ?hy7⟩) (by assumption) ?_
              case hy7 => (intro w9 hS9; (try dsimp only at hS9); go_simp; (try with_reducible rfl))
              try simp only [Act.put, List.getElem_toArray, List.getElem_cons_succ, List.getElem_cons_zero, List.setIfInBounds_toArray, List.set_cons_zero, List.set_cons_succ]
              refine wpAnyH_ready (rs := [1, 3]) (by kernel_rfl) (by simp) ?_
              refine AllReadyH.cons rfl (fun K9 hK9 => ?_) (AllReadyH.cons rfl (fun K9 hK9 => ?_) (AllReadyH.nil))
              · rw [if_pos (by rfl)]
                go_simp
                refine hK9.out _ _ (trivial) (fun hHeld2 => ?_)
                clear hK9 K9
                try simp only [Act.put, List.getElem_toArray, List.getElem_cons_succ, List.getElem_cons_zero, List.setIfInBounds_toArray, List.set_cons_zero, List.set_cons_succ]
                refine wpAnyH_ready (rs := [3]) (by kernel_rfl) (by simp) ?_
                refine AllReadyH.cons rfl (fun K9 hK9 => ?_) AllReadyH.nil
                rw [if_pos (by rfl)]
                go_wp2_with (go_at_call 33; refine (pick_any g bs k7 4 _ _ (HSz.out.below (below_drewN (Below.refl _ _) 1)) (by omega) rfl (by omega)).mono ?_; rintro e w6 ⟨r6, k6, rfl, hr6, hk6, hs6, hkk6⟩)
                have HG6 := Lib.hid ((HGz.out.below (below_drewN (Below.refl _ _) 1)).kept hkk6 (by omega))
                have hB6 : w2.heap.size + 1 ≤ w6.heap.size := Nat.le_trans hBc hkk6.size
                have hc6 := HG6.out.cell.2.2.1.1
                have HK6 := Lib.hid ((KeepD.of_below (B := w2.heap.size + 1) (gb := w2.heap.size) (g := g) (w := wc) (below_drewN (Below.refl _ _) 1) (by omega)).trans (KeepD.of_kept hkk6 (by exact hBc)))
                have hr6b : r6 ≤ 3 := by omega
                have hw6 : IntKind.i64.wrap (1 + (r6 : Int)) = 1 + (r6 : Int) := by rcases (by omega : r6 = 0 ∨ r6 = 1 ∨ r6 = 2 ∨ r6 = 3) with e | e | e | e <;> rw [e] <;> decide
                refine hK9.out _ _ (trivial) (fun hHeld3 => ?_)
                clear hK9 K9
                try simp only [Act.put, List.getElem_toArray, List.getElem_cons_succ, List.getElem_cons_zero, List.setIfInBounds_toArray, List.set_cons_zero, List.set_cons_succ]
                refine wpAnyH_take (i := 4) (v := ?v8) rfl (by kernel_rfl) (by kernel_rfl) (by kernel_rfl) (fun _ _ _ h => h) (Or.inl ⟨by kernel_rfl, ?hy8⟩) (by assumption) ?_
                case hy8 => (intro w9 hS9; (try dsimp only at hS9); go_simp; (try with_reducible rfl))
                try simp only [Act.put, List.getElem_toArray, List.getElem_cons_succ, List.getElem_cons_zero, List.setIfInBounds_toArray, List.set_cons_zero, List.set_cons_succ]
                refine wpAnyH_ready (rs := [5]) (by kernel_rfl) (by simp) ?_
                refine AllReadyH.cons rfl (fun K9 hK9 => ?_) AllReadyH.nil
                rw [if_pos (by rfl)]
                have hc6a := cell_allocD (.cells #[.int .i64 (1 + (r6 : Int))] 2) hc6
                go_simp
                refine hK9.out _ _ (trivial) (fun hHeld4 => ?_)
                clear hK9 K9
                try simp only [Act.put, List.getElem_toArray, List.getElem_cons_succ, List.getElem_cons_zero, List.setIfInBounds_toArray, List.set_cons_zero, List.set_cons_succ]
                refine wpAnyH_ready (rs := [6]) (by kernel_rfl) (by simp) ?_
                refine AllReadyH.cons rfl (fun K9 hK9 => ?_) AllReadyH.nil
                refine step_append_lies _ ?_ (.tmp 46) (.tmp 50) 24 ?_ (w2.heap.size + 1) 2 iI (.int .i64 0) 1 8 Tryz.underlying24 hi hzA0 hzA1 hzA2 rfl (by decide) (.slice a2 C.length n2) C.length (C.map (Value.int .i64)) ?_ (OwnI.below HG6.out.o2 (one_belowD w6 _)) ⟨w6.heap.size, 0, none⟩ 1 1 [.int .i64 (1 + (r6 : Int))] ?_ rfl (new_cellsD w6 _ _ _ rfl) int_oneD (by decide) (by unfold maxLen; omega) (by omega) (Nat.le_trans hB6 (one_belowD w6 _).size) _ rfl ?_; rfl; rfl; rfl; rfl
                intro gn cap w8 hown8 hgr8 hloc8 hlt8
                obtain ⟨HGn, HKn, hcf, hcz⟩ := HG6.out.count (one_belowD w6 _) hB6 (1 + (r6 : Int)) gn cap hown8 hgr8 hloc8 w2.heap.size
                refine hK9.out _ _ (trivial) (fun hHeld5 => ?_)
                clear hK9 K9
                try simp only [Act.put, List.getElem_toArray, List.getElem_cons_succ, List.getElem_cons_zero, List.setIfInBounds_toArray, List.set_cons_zero, List.set_cons_succ]
                refine wpAnyH_take (i := 7) (v := ?v9) rfl (by kernel_rfl) (by kernel_rfl) (by kernel_rfl) (fun _ _ _ h => h) (Or.inl ⟨by kernel_rfl, ?hy9⟩) (by assumption) ?_
                case hy9 => (intro w9 hS9; (try dsimp only at hS9); go_simp; (try with_reducible rfl))
                try simp only [Act.put, List.getElem_toArray, List.getElem_cons_succ, List.getElem_cons_zero, List.setIfInBounds_toArray, List.set_cons_zero, List.set_cons_succ]
                refine wpAnyH_ready (rs := [8]) (by kernel_rfl) (by simp) ?_
                refine AllReadyH.cons rfl (fun K9 hK9 => ?_) AllReadyH.nil
                rw [if_pos (by rfl)]
                go_simp
                refine hK9.out _ _ (trivial) (fun hHeld6 => ?_)
                clear hK9 K9
                try simp only [Act.put, List.getElem_toArray, List.getElem_cons_succ, List.getElem_cons_zero, List.setIfInBounds_toArray, List.set_cons_zero, List.set_cons_succ]
                refine wpAnyH_done (by kernel_rfl) ?_ _
                have HS9 := Lib.hid (hs6.low (HKn.low (by omega) (Nat.lt_succ_self _)))
                have HG9 := Lib.hid HGn
                have HK9 := Lib.hid ((HKz.out.trans HK6.out).trans HKn.weak)
                clear hs6 HGn HKn
                have HD9 := Lib.hid (HDr.out.step hc1 hlt (UInt8.ofNat c) (by simp; omega) (v := (r7 : Int)) (n := 1 + (r6 : Int)) (by omega) (by omega))
                go_wp2
                go_roundw
                case rel => exact ⟨c + 1, k6, _, _, _, _, _, by omega, by omega, by go_num, by omega, HS9, HG9, HD9, HK9⟩
                case measure => simp [intOf]; omega
              · rw [if_pos (by rfl)]
                go_wp2_with (go_at_call 33; refine (pick_any g bs k7 4 _ _ (HSz.out.below (below_drewN (Below.refl _ _) 1)) (by omega) rfl (by omega)).mono ?_; rintro e w6 ⟨r6, k6, rfl, hr6, hk6, hs6, hkk6⟩)
                have HG6 := Lib.hid ((HGz.out.below (below_drewN (Below.refl _ _) 1)).kept hkk6 (by omega))
                have hB6 : w2.heap.size + 1 ≤ w6.heap.size := Nat.le_trans hBc hkk6.size
                have hc6 := HG6.out.cell.2.2.1.1
                have HK6 := Lib.hid ((KeepD.of_below (B := w2.heap.size + 1) (gb := w2.heap.size) (g := g) (w := wc) (below_drewN (Below.refl _ _) 1) (by omega)).trans (KeepD.of_kept hkk6 (by exact hBc)))
                have hr6b : r6 ≤ 3 := by omega
                have hw6 : IntKind.i64.wrap (1 + (r6 : Int)) = 1 + (r6 : Int) := by rcases (by omega : r6 = 0 ∨ r6 = 1 ∨ r6 = 2 ∨ r6 = 3) with e | e | e | e <;> rw [e] <;> decide
                refine hK9.out _ _ (trivial) (fun hHeld2 => ?_)
                clear hK9 K9
                try simp only [Act.put, List.getElem_toArray, List.getElem_cons_succ, List.getElem_cons_zero, List.setIfInBounds_toArray, List.set_cons_zero, List.set_cons_succ]
                refine wpAnyH_take (i := 4) (v := ?v10) rfl (by kernel_rfl) (by kernel_rfl) (by kernel_rfl) (fun _ _ _ h => h) (Or.inl ⟨by kernel_rfl, ?hy10⟩) (by assumption) ?_
                case hy10 => (intro w9 hS9; (try dsimp only at hS9); go_simp; (try with_reducible rfl))
                try simp only [Act.put, List.getElem_toArray, List.getElem_cons_succ, List.getElem_cons_zero, List.setIfInBounds_toArray, List.set_cons_zero, List.set_cons_succ]
                refine wpAnyH_ready (rs := [1, 5]) (by kernel_rfl) (by simp) ?_
                refine AllReadyH.cons rfl (fun K9 hK9 => ?_) (AllReadyH.cons rfl (fun K9 hK9 => ?_) (AllReadyH.nil))
                · rw [if_pos (by rfl)]
                  go_simp
                  refine hK9.out _ _ (trivial) (fun hHeld3 => ?_)
                  clear hK9 K9
                  try simp only [Act.put, List.getElem_toArray, List.getElem_cons_succ, List.getElem_cons_zero, List.setIfInBounds_toArray, List.set_cons_zero, List.set_cons_succ]
                  refine wpAnyH_ready (rs := [5]) (by kernel_rfl) (by simp) ?_
                  refine AllReadyH.cons rfl (fun K9 hK9 => ?_) AllReadyH.nil
                  rw [if_pos (by rfl)]
                  have hc6a := cell_allocD (.cells #[.int .i64 (1 + (r6 : Int))] 2) hc6
                  go_simp
                  refine hK9.out _ _ (trivial) (fun hHeld4 => ?_)
                  clear hK9 K9
                  try simp only [Act.put, List.getElem_toArray, List.getElem_cons_succ, List.getElem_cons_zero, List.setIfInBounds_toArray, List.set_cons_zero, List.set_cons_succ]
                  refine wpAnyH_ready (rs := [6]) (by kernel_rfl) (by simp) ?_
                  refine AllReadyH.cons rfl (fun K9 hK9 => ?_) AllReadyH.nil
                  refine step_append_lies _ ?_ (.tmp 46) (.tmp 50) 24 ?_ (w2.heap.size + 1) 2 iI (.int .i64 0) 1 8 Tryz.underlying24 hi hzA0 hzA1 hzA2 rfl (by decide) (.slice a2 C.length n2) C.length (C.map (Value.int .i64)) ?_ (OwnI.below HG6.out.o2 (one_belowD w6 _)) ⟨w6.heap.size, 0, none⟩ 1 1 [.int .i64 (1 + (r6 : Int))] ?_ rfl (new_cellsD w6 _ _ _ rfl) int_oneD (by decide) (by unfold maxLen; omega) (by omega) (Nat.le_trans hB6 (one_belowD w6 _).size) _ rfl ?_; rfl; rfl; rfl; rfl
                  intro gn cap w8 hown8 hgr8 hloc8 hlt8
                  obtain ⟨HGn, HKn, hcf, hcz⟩ := HG6.out.count (one_belowD w6 _) hB6 (1 + (r6 : Int)) gn cap hown8 hgr8 hloc8 w2.heap.size
                  refine hK9.out _ _ (trivial) (fun hHeld5 => ?_)
                  clear hK9 K9
                  try simp only [Act.put, List.getElem_toArray, List.getElem_cons_succ, List.getElem_cons_zero, List.setIfInBounds_toArray, List.set_cons_zero, List.set_cons_succ]
                  refine wpAnyH_take (i := 7) (v := ?v11) rfl (by kernel_rfl) (by kernel_rfl) (by kernel_rfl) (fun _ _ _ h => h) (Or.inl ⟨by kernel_rfl, ?hy11⟩) (by assumption) ?_
                  case hy11 => (intro w9 hS9; (try dsimp only at hS9); go_simp; (try with_reducible rfl))
                  try simp only [Act.put, List.getElem_toArray, List.getElem_cons_succ, List.getElem_cons_zero, List.setIfInBounds_toArray, List.set_cons_zero, List.set_cons_succ]
                  refine wpAnyH_ready (rs := [8]) (by kernel_rfl) (by simp) ?_
                  refine AllReadyH.cons rfl (fun K9 hK9 => ?_) AllReadyH.nil
                  rw [if_pos (by rfl)]
                  go_simp
                  refine hK9.out _ _ (trivial) (fun hHeld6 => ?_)
                  clear hK9 K9
                  try simp only [Act.put, List.getElem_toArray, List.getElem_cons_succ, List.getElem_cons_zero, List.setIfInBounds_toArray, List.set_cons_zero, List.set_cons_succ]
                  refine wpAnyH_done (by kernel_rfl) ?_ _
                  have HS9 := Lib.hid (hs6.low (HKn.low (by omega) (Nat.lt_succ_self _)))
                  have HG9 := Lib.hid HGn
                  have HK9 := Lib.hid ((HKz.out.trans HK6.out).trans HKn.weak)
                  clear hs6 HGn HKn
                  have HD9 := Lib.hid (HDr.out.step hc1 hlt (UInt8.ofNat c) (by simp; omega) (v := (r7 : Int)) (n := 1 + (r6 : Int)) (by omega) (by omega))
                  go_wp2
                  go_roundw
                  case rel => exact ⟨c + 1, k6, _, _, _, _, _, by omega, by omega, by go_num, by omega, HS9, HG9, HD9, HK9⟩
                  case measure => simp [intOf]; omega
                · rw [if_pos (by rfl)]
                  have hc6a := cell_allocD (.cells #[.int .i64 (1 + (r6 : Int))] 2) hc6
                  go_simp
                  refine hK9.out _ _ (trivial) (fun hHeld3 => ?_)
                  clear hK9 K9
                  try simp only [Act.put, List.getElem_toArray, List.getElem_cons_succ, List.getElem_cons_zero, List.setIfInBounds_toArray, List.set_cons_zero, List.set_cons_succ]
                  refine wpAnyH_ready (rs := [1]) (by kernel_rfl) (by simp) ?_
                  refine AllReadyH.cons rfl (fun K9 hK9 => ?_) AllReadyH.nil
                  rw [if_pos (by rfl)]
                  go_simp
                  refine hK9.out _ _ (trivial) (fun hHeld4 => ?_)
                  clear hK9 K9
                  try simp only [Act.put, List.getElem_toArray, List.getElem_cons_succ, List.getElem_cons_zero, List.setIfInBounds_toArray, List.set_cons_zero, List.set_cons_succ]
                  refine wpAnyH_ready (rs := [6]) (by kernel_rfl) (by simp) ?_
                  refine AllReadyH.cons rfl (fun K9 hK9 => ?_) AllReadyH.nil
                  refine step_append_lies _ ?_ (.tmp 46) (.tmp 50) 24 ?_ (w2.heap.size + 1) 2 iI (.int .i64 0) 1 8 Tryz.underlying24 hi hzA0 hzA1 hzA2 rfl (by decide) (.slice a2 C.length n2) C.length (C.map (Value.int .i64)) ?_ (OwnI.below HG6.out.o2 (one_belowD w6 _)) ⟨w6.heap.size, 0, none⟩ 1 1 [.int .i64 (1 + (r6 : Int))] ?_ rfl (new_cellsD w6 _ _ _ rfl) int_oneD (by decide) (by unfold maxLen; omega) (by omega) (Nat.le_trans hB6 (one_belowD w6 _).size) _ rfl ?_; rfl; rfl; rfl; rfl
                  intro gn cap w8 hown8 hgr8 hloc8 hlt8
                  obtain ⟨HGn, HKn, hcf, hcz⟩ := HG6.out.count (one_belowD w6 _) hB6 (1 + (r6 : Int)) gn cap hown8 hgr8 hloc8 w2.heap.size
                  refine hK9.out _ _ (trivial) (fun hHeld5 => ?_)
                  clear hK9 K9
                  try simp only [Act.put, List.getElem_toArray, List.getElem_cons_succ, List.getElem_cons_zero, List.setIfInBounds_toArray, List.set_cons_zero, List.set_cons_succ]
                  refine wpAnyH_take (i := 7) (v := ?v12) rfl (by kernel_rfl) (by kernel_rfl) (by kernel_rfl) (fun _ _ _ h => h) (Or.inl ⟨by kernel_rfl, ?hy12⟩) (by assumption) ?_
                  case hy12 => (intro w9 hS9; (try dsimp only at hS9); go_simp; (try with_reducible rfl))
                  try simp only [Act.put, List.getElem_toArray, List.getElem_cons_succ, List.getElem_cons_zero, List.setIfInBounds_toArray, List.set_cons_zero, List.set_cons_succ]
                  refine wpAnyH_ready (rs := [8]) (by kernel_rfl) (by simp) ?_
                  refine AllReadyH.cons rfl (fun K9 hK9 => ?_) AllReadyH.nil
                  rw [if_pos (by rfl)]
                  go_simp
                  refine hK9.out _ _ (trivial) (fun hHeld6 => ?_)
                  clear hK9 K9
                  try simp only [Act.put, List.getElem_toArray, List.getElem_cons_succ, List.getElem_cons_zero, List.setIfInBounds_toArray, List.set_cons_zero, List.set_cons_succ]
                  refine wpAnyH_done (by kernel_rfl) ?_ _
                  have HS9 := Lib.hid (hs6.low (HKn.low (by omega) (Nat.lt_succ_self _)))
                  have HG9 := Lib.hid HGn
                  have HK9 := Lib.hid ((HKz.out.trans HK6.out).trans HKn.weak)
                  clear hs6 HGn HKn
                  have HD9 := Lib.hid (HDr.out.step hc1 hlt (UInt8.ofNat c) (by simp; omega) (v := (r7 : Int)) (n := 1 + (r6 : Int)) (by omega) (by omega))
                  go_wp2
                  go_roundw
                  case rel => exact ⟨c + 1, k6, _, _, _, _, _, by omega, by omega, by go_num, by omega, HS9, HG9, HD9, HK9⟩
                  case measure => simp [intOf]; omega
        · have h102I : ¬ ((102 : Int) < (c : Int)) := by omega
          obtain ⟨⟨c0, z0⟩, -, -, -⟩ := HGr.out.cell
          have hLs : L.size ≤ 26 := by have := HDr.out.n2; omega
          have hsum : (9223372036854775807 < L.size + 1) = False := eq_false (by omega)
          have hba := one_belowD wr (.cells #[.int .u8 (c : Int)] 5)
          have HGa := Lib.hid (HGr.out.below hba)
          obtain ⟨⟨c0a, z0a⟩, -, -, -⟩ := HGa.out.cell
          have HGy := Lib.hid (HGa.out.letters (L ++ ⟨#[UInt8.ofNat c]⟩))
          have HKy := Lib.hid ((HKr.out.trans (KeepD.of_below hba (by omega))).trans (KeepD.of_set (i := 0) (u := .string (L ++ ⟨#[UInt8.ofNat c]⟩))))
          have HSy := Lib.hid ((HSr.out.below hba).low ((kept_setCell (w := wr.alloc (.cells #[.int .u8 (c : Int)] 5)) (lo := w2.heap.size) (hi := w2.heap.size + 1) (g := w2.heap.size) (o := 0) (Nat.le_refl _) (Nat.lt_succ_self _) (.string (L ++ ⟨#[UInt8.ofNat c]⟩))).below (by omega) (by have := hba.size; omega)))
          have hBy : w2.heap.size + 1 ≤ ((wr.alloc (.cells #[.int .u8 (c : Int)] 5)).setCell ⟨w2.heap.size, 0, none⟩ (.string (L ++ ⟨#[UInt8.ofNat c]⟩))).heap.size := by have := HKy.out.size; omega
          have hlv := HDr.out.lv
          have hlc := HDr.out.lc
          have HL := Lib.hid hlv
          have HL2 := Lib.hid hlc
          have hV26 : V.length ≤ 26 := by omega
          have hC26 : C.length ≤ 26 := by omega
          clear hlv hlc hba
          go_upto_region 10 with fail
          clear c0 z0 c0a z0a HGa
          generalize (wr.alloc (.cells #[.int .u8 (c : Int)] 5)).setCell ⟨w2.heap.size, 0, none⟩ (.string (L ++ ⟨#[UInt8.ofNat c]⟩)) = wy at HGy HKy HSy hBy ⊢
          obtain ⟨iI, hi, hzA0, hzA1, hzA2⟩ := info_parts infoI64
          go_cut [6] (fun s6 wz => s6 = .int .u8 (c : Int) ∧ ∃ (r6 k6 : Nat) (u1 : Value), r6 ≤ 11 ∧ k6 ≤ kr + 2 ∧ SrcW wz g bs k6 ∧ TG wz (w2.heap.size + 1) w2.heap.size u1 v2 (L ++ ⟨#[UInt8.ofNat c]⟩) (V ++ [(r6 : Int)]) C (r : Int) ∧ KeepD (w2.heap.size + 1) w2.heap.size g wx wz ∧ w2.heap.size + 1 ≤ wz.heap.size)
          case first =>
            have hcy := HGy.out.cell.2.1.1
            have hcyd : wy.drew.cell? ⟨w2.heap.size, 1, none⟩ = some v1 := hcy
            obtain ⟨a1, n1, ev1, -, -⟩ := HGy.out.o1.shape
            subst ev1
            refine wp_region_held_drew (S := (fun _ => True)) (by kernel_rfl) ?_ (fun hHeld => ?_)
            · trivial
            refine wpAnyH_take (i := 0) (v := ?v13) rfl (by kernel_rfl) (by kernel_rfl) (by kernel_rfl) (fun _ _ _ h => h) (Or.inl ⟨by kernel_rfl, ?hy13⟩) (by assumption) ?_
            case hy13 => (intro w9 hS9; (try dsimp only at hS9); go_simp; (try with_reducible rfl))
            try simp only [Act.put, List.getElem_toArray, List.getElem_cons_succ, List.getElem_cons_zero, List.setIfInBounds_toArray, List.set_cons_zero, List.set_cons_succ]
            refine wpAnyH_take (i := 2) (v := ?v14) rfl (by kernel_rfl) (by kernel_rfl) (by kernel_rfl) (fun _ _ _ h => h) (Or.inl ⟨by kernel_rfl, ?hy14⟩) (by assumption) ?_
            case hy14 => (intro w9 hS9; (try dsimp only at hS9); go_simp; (try with_reducible rfl))
            try simp only [Act.put, List.getElem_toArray, List.getElem_cons_succ, List.getElem_cons_zero, List.setIfInBounds_toArray, List.set_cons_zero, List.set_cons_succ]
            refine wpAnyH_ready (rs := [1, 3]) (by kernel_rfl) (by simp) ?_
            refine AllReadyH.cons rfl (fun K9 hK9 => ?_) (AllReadyH.cons rfl (fun K9 hK9 => ?_) (AllReadyH.nil))
            · rw [if_pos (by rfl)]
              go_simp
              refine hK9.out _ _ (trivial) (fun hHeld2 => ?_)
              clear hK9 K9
              try simp only [Act.put, List.getElem_toArray, List.getElem_cons_succ, List.getElem_cons_zero, List.setIfInBounds_toArray, List.set_cons_zero, List.set_cons_succ]
              refine wpAnyH_ready (rs := [3]) (by kernel_rfl) (by simp) ?_
              refine AllReadyH.cons rfl (fun K9 hK9 => ?_) AllReadyH.nil
              rw [if_pos (by rfl)]
              go_wp2_with (go_at_call 33; refine (pick_any g bs kr 12 _ _ (HSy.out.below (below_drewN (Below.refl _ _) 1)) (by omega) rfl (by omega)).mono ?_; rintro e w6 ⟨r6, k6, rfl, hr6, hk6, hs6, hkk6⟩)
              have HG6 := Lib.hid ((HGy.out.below (below_drewN (Below.refl _ _) 1)).kept hkk6 (by omega))
              have hB6 : w2.heap.size + 1 ≤ w6.heap.size := Nat.le_trans hBy hkk6.size
              have hc6 := HG6.out.cell.2.1.1
              have HK6 := Lib.hid ((KeepD.of_below (B := w2.heap.size + 1) (gb := w2.heap.size) (g := g) (w := wy) (below_drewN (Below.refl _ _) 1) (by omega)).trans (KeepD.of_kept hkk6 (by exact hBy)))
              refine hK9.out _ _ (trivial) (fun hHeld3 => ?_)
              clear hK9 K9
              try simp only [Act.put, List.getElem_toArray, List.getElem_cons_succ, List.getElem_cons_zero, List.setIfInBounds_toArray, List.set_cons_zero, List.set_cons_succ]
              refine wpAnyH_ready (rs := [4]) (by kernel_rfl) (by simp) ?_
              refine AllReadyH.cons rfl (fun K9 hK9 => ?_) AllReadyH.nil
              rw [if_pos (by rfl)]
              have hc6a := cell_allocD (.cells #[.int .i64 (r6 : Int)] 2) hc6
              go_simp
              refine hK9.out _ _ (trivial) (fun hHeld4 => ?_)
              clear hK9 K9
              try simp only [Act.put, List.getElem_toArray, List.getElem_cons_succ, List.getElem_cons_zero, List.setIfInBounds_toArray, List.set_cons_zero, List.set_cons_succ]
              refine wpAnyH_ready (rs := [5]) (by kernel_rfl) (by simp) ?_
              refine AllReadyH.cons rfl (fun K9 hK9 => ?_) AllReadyH.nil
              refine step_append_lies _ ?_ (.tmp 39) (.tmp 42) 24 ?_ (w2.heap.size + 1) 2 iI (.int .i64 0) 1 8 Tryz.underlying24 hi hzA0 hzA1 hzA2 rfl (by decide) (.slice a1 V.length n1) V.length (V.map (Value.int .i64)) ?_ (OwnI.below HG6.out.o1 (one_belowD w6 _)) ⟨w6.heap.size, 0, none⟩ 1 1 [.int .i64 (r6 : Int)] ?_ rfl (new_cellsD w6 _ _ _ rfl) int_oneD (by decide) (by unfold maxLen; omega) (by omega) (Nat.le_trans hB6 (one_belowD w6 _).size) _ rfl ?_; rfl; rfl; rfl; rfl
              intro gn cap w8 hown8 hgr8 hloc8 hlt8
              obtain ⟨HGn, HKn, hcf, hcz⟩ := HG6.out.value (one_belowD w6 _) hB6 (r6 : Int) gn cap hown8 hgr8 hloc8 w2.heap.size
              refine hK9.out _ _ (trivial) (fun hHeld5 => ?_)
              clear hK9 K9
              try simp only [Act.put, List.getElem_toArray, List.getElem_cons_succ, List.getElem_cons_zero, List.setIfInBounds_toArray, List.set_cons_zero, List.set_cons_succ]
              refine wpAnyH_take (i := 6) (v := ?v15) rfl (by kernel_rfl) (by kernel_rfl) (by kernel_rfl) (fun _ _ _ h => h) (Or.inl ⟨by kernel_rfl, ?hy15⟩) (by assumption) ?_
              case hy15 => (intro w9 hS9; (try dsimp only at hS9); go_simp; (try with_reducible rfl))
              try simp only [Act.put, List.getElem_toArray, List.getElem_cons_succ, List.getElem_cons_zero, List.setIfInBounds_toArray, List.set_cons_zero, List.set_cons_succ]
              refine wpAnyH_ready (rs := [7]) (by kernel_rfl) (by simp) ?_
              refine AllReadyH.cons rfl (fun K9 hK9 => ?_) AllReadyH.nil
              rw [if_pos (by rfl)]
              go_simp
              refine hK9.out _ _ (trivial) (fun hHeld6 => ?_)
              clear hK9 K9
              try simp only [Act.put, List.getElem_toArray, List.getElem_cons_succ, List.getElem_cons_zero, List.setIfInBounds_toArray, List.set_cons_zero, List.set_cons_succ]
              refine wpAnyH_done (by kernel_rfl) ?_ _
              go_wp2_with fail
              go_meet
              exact ⟨rfl, r6, k6, _, by omega, hk6, hs6.low (HKn.low (by omega) (Nat.lt_succ_self _)), HGn, (HKy.out.trans HK6.out).trans HKn.weak, Nat.le_trans hB6 HKn.size⟩
            · rw [if_pos (by rfl)]
              go_wp2_with (go_at_call 33; refine (pick_any g bs kr 12 _ _ (HSy.out.below (below_drewN (Below.refl _ _) 1)) (by omega) rfl (by omega)).mono ?_; rintro e w6 ⟨r6, k6, rfl, hr6, hk6, hs6, hkk6⟩)
              have HG6 := Lib.hid ((HGy.out.below (below_drewN (Below.refl _ _) 1)).kept hkk6 (by omega))
              have hB6 : w2.heap.size + 1 ≤ w6.heap.size := Nat.le_trans hBy hkk6.size
              have hc6 := HG6.out.cell.2.1.1
              have HK6 := Lib.hid ((KeepD.of_below (B := w2.heap.size + 1) (gb := w2.heap.size) (g := g) (w := wy) (below_drewN (Below.refl _ _) 1) (by omega)).trans (KeepD.of_kept hkk6 (by exact hBy)))
              refine hK9.out _ _ (trivial) (fun hHeld2 => ?_)
              clear hK9 K9
              try simp only [Act.put, List.getElem_toArray, List.getElem_cons_succ, List.getElem_cons_zero, List.setIfInBounds_toArray, List.set_cons_zero, List.set_cons_succ]
              refine wpAnyH_ready (rs := [1, 4]) (by kernel_rfl) (by simp) ?_
              refine AllReadyH.cons rfl (fun K9 hK9 => ?_) (AllReadyH.cons rfl (fun K9 hK9 => ?_) (AllReadyH.nil))
              · rw [if_pos (by rfl)]
                go_simp
                refine hK9.out _ _ (trivial) (fun hHeld3 => ?_)
                clear hK9 K9
                try simp only [Act.put, List.getElem_toArray, List.getElem_cons_succ, List.getElem_cons_zero, List.setIfInBounds_toArray, List.set_cons_zero, List.set_cons_succ]
                refine wpAnyH_ready (rs := [4]) (by kernel_rfl) (by simp) ?_
                refine AllReadyH.cons rfl (fun K9 hK9 => ?_) AllReadyH.nil
                rw [if_pos (by rfl)]
                have hc6a := cell_allocD (.cells #[.int .i64 (r6 : Int)] 2) hc6
                go_simp
                refine hK9.out _ _ (trivial) (fun hHeld4 => ?_)
                clear hK9 K9
                try simp only [Act.put, List.getElem_toArray, List.getElem_cons_succ, List.getElem_cons_zero, List.setIfInBounds_toArray, List.set_cons_zero, List.set_cons_succ]
                refine wpAnyH_ready (rs := [5]) (by kernel_rfl) (by simp) ?_
                refine AllReadyH.cons rfl (fun K9 hK9 => ?_) AllReadyH.nil
                refine step_append_lies _ ?_ (.tmp 39) (.tmp 42) 24 ?_ (w2.heap.size + 1) 2 iI (.int .i64 0) 1 8 Tryz.underlying24 hi hzA0 hzA1 hzA2 rfl (by decide) (.slice a1 V.length n1) V.length (V.map (Value.int .i64)) ?_ (OwnI.below HG6.out.o1 (one_belowD w6 _)) ⟨w6.heap.size, 0, none⟩ 1 1 [.int .i64 (r6 : Int)] ?_ rfl (new_cellsD w6 _ _ _ rfl) int_oneD (by decide) (by unfold maxLen; omega) (by omega) (Nat.le_trans hB6 (one_belowD w6 _).size) _ rfl ?_; rfl; rfl; rfl; rfl
                intro gn cap w8 hown8 hgr8 hloc8 hlt8
                obtain ⟨HGn, HKn, hcf, hcz⟩ := HG6.out.value (one_belowD w6 _) hB6 (r6 : Int) gn cap hown8 hgr8 hloc8 w2.heap.size
                refine hK9.out _ _ (trivial) (fun hHeld5 => ?_)
                clear hK9 K9
                try simp only [Act.put, List.getElem_toArray, List.getElem_cons_succ, List.getElem_cons_zero, List.setIfInBounds_toArray, List.set_cons_zero, List.set_cons_succ]
                refine wpAnyH_take (i := 6) (v := ?v16) rfl (by kernel_rfl) (by kernel_rfl) (by kernel_rfl) (fun _ _ _ h => h) (Or.inl ⟨by kernel_rfl, ?hy16⟩) (by assumption) ?_
                case hy16 => (intro w9 hS9; (try dsimp only at hS9); go_simp; (try with_reducible rfl))
                try simp only [Act.put, List.getElem_toArray, List.getElem_cons_succ, List.getElem_cons_zero, List.setIfInBounds_toArray, List.set_cons_zero, List.set_cons_succ]
                refine wpAnyH_ready (rs := [7]) (by kernel_rfl) (by simp) ?_
                refine AllReadyH.cons rfl (fun K9 hK9 => ?_) AllReadyH.nil
                rw [if_pos (by rfl)]
                go_simp
                refine hK9.out _ _ (trivial) (fun hHeld6 => ?_)
                clear hK9 K9
                try simp only [Act.put, List.getElem_toArray, List.getElem_cons_succ, List.getElem_cons_zero, List.setIfInBounds_toArray, List.set_cons_zero, List.set_cons_succ]
                refine wpAnyH_done (by kernel_rfl) ?_ _
                go_wp2_with fail
                go_meet
                exact ⟨rfl, r6, k6, _, by omega, hk6, hs6.low (HKn.low (by omega) (Nat.lt_succ_self _)), HGn, (HKy.out.trans HK6.out).trans HKn.weak, Nat.le_trans hB6 HKn.size⟩
              · rw [if_pos (by rfl)]
                have hc6a := cell_allocD (.cells #[.int .i64 (r6 : Int)] 2) hc6
                go_simp
                refine hK9.out _ _ (trivial) (fun hHeld3 => ?_)
                clear hK9 K9
                try simp only [Act.put, List.getElem_toArray, List.getElem_cons_succ, List.getElem_cons_zero, List.setIfInBounds_toArray, List.set_cons_zero, List.set_cons_succ]
                refine wpAnyH_ready (rs := [1]) (by kernel_rfl) (by simp) ?_
                refine AllReadyH.cons rfl (fun K9 hK9 => ?_) AllReadyH.nil
                rw [if_pos (by rfl)]
                go_simp
                refine hK9.out _ _ (trivial) (fun hHeld4 => ?_)
                clear hK9 K9
                try simp only [Act.put, List.getElem_toArray, List.getElem_cons_succ, List.getElem_cons_zero, List.setIfInBounds_toArray, List.set_cons_zero, List.set_cons_succ]
                refine wpAnyH_ready (rs := [5]) (by kernel_rfl) (by simp) ?_
                refine AllReadyH.cons rfl (fun K9 hK9 => ?_) AllReadyH.nil
                refine step_append_lies _ ?_ (.tmp 39) (.tmp 42) 24 ?_ (w2.heap.size + 1) 2 iI (.int .i64 0) 1 8 Tryz.underlying24 hi hzA0 hzA1 hzA2 rfl (by decide) (.slice a1 V.length n1) V.length (V.map (Value.int .i64)) ?_ (OwnI.below HG6.out.o1 (one_belowD w6 _)) ⟨w6.heap.size, 0, none⟩ 1 1 [.int .i64 (r6 : Int)] ?_ rfl (new_cellsD w6 _ _ _ rfl) int_oneD (by decide) (by unfold maxLen; omega) (by omega) (Nat.le_trans hB6 (one_belowD w6 _).size) _ rfl ?_; rfl; rfl; rfl; rfl
                intro gn cap w8 hown8 hgr8 hloc8 hlt8
                obtain ⟨HGn, HKn, hcf, hcz⟩ := HG6.out.value (one_belowD w6 _) hB6 (r6 : Int) gn cap hown8 hgr8 hloc8 w2.heap.size
                refine hK9.out _ _ (trivial) (fun hHeld5 => ?_)
                clear hK9 K9
                try simp only [Act.put, List.getElem_toArray, List.getElem_cons_succ, List.getElem_cons_zero, List.setIfInBounds_toArray, List.set_cons_zero, List.set_cons_succ]
                refine wpAnyH_take (i := 6) (v := ?v17) rfl (by kernel_rfl) (by kernel_rfl) (by kernel_rfl) (fun _ _ _ h => h) (Or.inl ⟨by kernel_rfl, ?hy17⟩) (by assumption) ?_
                case hy17 => (intro w9 hS9; (try dsimp only at hS9); go_simp; (try with_reducible rfl))
                try simp only [Act.put, List.getElem_toArray, List.getElem_cons_succ, List.getElem_cons_zero, List.setIfInBounds_toArray, List.set_cons_zero, List.set_cons_succ]
                refine wpAnyH_ready (rs := [7]) (by kernel_rfl) (by simp) ?_
                refine AllReadyH.cons rfl (fun K9 hK9 => ?_) AllReadyH.nil
                rw [if_pos (by rfl)]
                go_simp
                refine hK9.out _ _ (trivial) (fun hHeld6 => ?_)
                clear hK9 K9
                try simp only [Act.put, List.getElem_toArray, List.getElem_cons_succ, List.getElem_cons_zero, List.setIfInBounds_toArray, List.set_cons_zero, List.set_cons_succ]
                refine wpAnyH_done (by kernel_rfl) ?_ _
                go_wp2_with fail
                go_meet
                exact ⟨rfl, r6, k6, _, by omega, hk6, hs6.low (HKn.low (by omega) (Nat.lt_succ_self _)), HGn, (HKy.out.trans HK6.out).trans HKn.weak, Nat.le_trans hB6 HKn.size⟩
          case rest =>
            obtain ⟨rfl, r7, k7, u1, hr7, hk7, hs7, hg7, hkz, hBc⟩ := hcut
            have HGz := Lib.hid hg7
            have HSz := Lib.hid hs7
            have HKz := Lib.hid hkz
            clear hs7 hg7 hkz
            have hcz := HGz.out.cell.2.2.1.1
            have hczd : wc.drew.cell? ⟨w2.heap.size, 2, none⟩ = some v2 := hcz
            obtain ⟨a2, n2, ev2, -, -⟩ := HGz.out.o2.shape
            subst ev2
            go_upto_region 11 with fail
            refine wp_region_held_drew (S := (fun _ => True)) (by kernel_rfl) ?_ (fun hHeld => ?_)
            · trivial
            refine wpAnyH_take (i := 0) (v := ?v18) rfl (by kernel_rfl) (by kernel_rfl) (by kernel_rfl) (fun _ _ _ h => h) (Or.inl ⟨by kernel_rfl, ?hy18⟩) (by assumption) ?_
            case hy18 => (intro w9 hS9; (try dsimp only at hS9); go_simp; (try with_reducible rfl))
            try simp only [Act.put, List.getElem_toArray, List.getElem_cons_succ, List.getElem_cons_zero, List.setIfInBounds_toArray, List.set_cons_zero, List.set_cons_succ]
            refine wpAnyH_take (i := 2) (v := ?v19) rfl (by kernel_rfl) (by kernel_rfl) (by kernel_rfl) (fun _ _ _ h => h) (Or.inl ⟨by kernel_rfl, ?hy19⟩) (by assumption) ?_
            case hy19 => (intro w9 hS9; (try dsimp only at hS9); go_simp; (try with_reducible rfl))
            try simp only [Act.put, List.getElem_toArray, List.getElem_cons_succ, List.getElem_cons_zero, List.setIfInBounds_toArray, List.set_cons_zero, List.set_cons_succ]
            refine wpAnyH_ready (rs := [1, 3]) (by kernel_rfl) (by simp) ?_
            refine AllReadyH.cons rfl (fun K9 hK9 => ?_) (AllReadyH.cons rfl (fun K9 hK9 => ?_) (AllReadyH.nil))
            · rw [if_pos (by rfl)]
              go_simp
              refine hK9.out _ _ (trivial) (fun hHeld2 => ?_)
              clear hK9 K9
              try simp only [Act.put, List.getElem_toArray, List.getElem_cons_succ, List.getElem_cons_zero, List.setIfInBounds_toArray, List.set_cons_zero, List.set_cons_succ]
              refine wpAnyH_ready (rs := [3]) (by kernel_rfl) (by simp) ?_
              refine AllReadyH.cons rfl (fun K9 hK9 => ?_) AllReadyH.nil
              rw [if_pos (by rfl)]
              go_wp2_with (go_at_call 33; refine (pick_any g bs k7 4 _ _ (HSz.out.below (below_drewN (Below.refl _ _) 1)) (by omega) rfl (by omega)).mono ?_; rintro e w6 ⟨r6, k6, rfl, hr6, hk6, hs6, hkk6⟩)
              have HG6 := Lib.hid ((HGz.out.below (below_drewN (Below.refl _ _) 1)).kept hkk6 (by omega))
              have hB6 : w2.heap.size + 1 ≤ w6.heap.size := Nat.le_trans hBc hkk6.size
              have hc6 := HG6.out.cell.2.2.1.1
              have HK6 := Lib.hid ((KeepD.of_below (B := w2.heap.size + 1) (gb := w2.heap.size) (g := g) (w := wc) (below_drewN (Below.refl _ _) 1) (by omega)).trans (KeepD.of_kept hkk6 (by exact hBc)))
              have hr6b : r6 ≤ 3 := by omega
              have hw6 : IntKind.i64.wrap (1 + (r6 : Int)) = 1 + (r6 : Int) := by rcases (by omega : r6 = 0 ∨ r6 = 1 ∨ r6 = 2 ∨ r6 = 3) with e | e | e | e <;> rw [e] <;> decide
              refine hK9.out _ _ (trivial) (fun hHeld3 => ?_)
              clear hK9 K9
              try simp only [Act.put, List.getElem_toArray, List.getElem_cons_succ, List.getElem_cons_zero, List.setIfInBounds_toArray, List.set_cons_zero, List.set_cons_succ]
              refine wpAnyH_take (i := 4) (v := ?v20) rfl (by kernel_rfl) (by kernel_rfl) (by kernel_rfl) (fun _ _ _ h => h) (Or.inl ⟨by kernel_rfl, ?hy20⟩) (by assumption) ?_
              case hy20 => (intro w9 hS9; (try dsimp only at hS9); go_simp; (try with_reducible rfl))
              try simp only [Act.put, List.getElem_toArray, List.getElem_cons_succ, List.getElem_cons_zero, List.setIfInBounds_toArray, List.set_cons_zero, List.set_cons_succ]
              refine wpAnyH_ready (rs := [5]) (by kernel_rfl) (by simp) ?_
              refine AllReadyH.cons rfl (fun K9 hK9 => ?_) AllReadyH.nil
              rw [if_pos (by rfl)]
              have hc6a := cell_allocD (.cells #[.int .i64 (1 + (r6 : Int))] 2) hc6
              go_simp
              refine hK9.out _ _ (trivial) (fun hHeld4 => ?_)
              clear hK9 K9
              try simp only [Act.put, List.getElem_toArray, List.getElem_cons_succ, List.getElem_cons_zero, List.setIfInBounds_toArray, List.set_cons_zero, List.set_cons_succ]
              refine wpAnyH_ready (rs := [6]) (by kernel_rfl) (by simp) ?_
              refine AllReadyH.cons rfl (fun K9 hK9 => ?_) AllReadyH.nil
              refine step_append_lies _ ?_ (.tmp 46) (.tmp 50) 24 ?_ (w2.heap.size + 1) 2 iI (.int .i64 0) 1 8 Tryz.underlying24 hi hzA0 hzA1 hzA2 rfl (by decide) (.slice a2 C.length n2) C.length (C.map (Value.int .i64)) ?_ (OwnI.below HG6.out.o2 (one_belowD w6 _)) ⟨w6.heap.size, 0, none⟩ 1 1 [.int .i64 (1 + (r6 : Int))] ?_ rfl (new_cellsD w6 _ _ _ rfl) int_oneD (by decide) (by unfold maxLen; omega) (by omega) (Nat.le_trans hB6 (one_belowD w6 _).size) _ rfl ?_; rfl; rfl; rfl; rfl
              intro gn cap w8 hown8 hgr8 hloc8 hlt8
              obtain ⟨HGn, HKn, hcf, hcz⟩ := HG6.out.count (one_belowD w6 _) hB6 (1 + (r6 : Int)) gn cap hown8 hgr8 hloc8 w2.heap.size
              refine hK9.out _ _ (trivial) (fun hHeld5 => ?_)
              clear hK9 K9
              try simp only [Act.put, List.getElem_toArray, List.getElem_cons_succ, List.getElem_cons_zero, List.setIfInBounds_toArray, List.set_cons_zero, List.set_cons_succ]
              refine wpAnyH_take (i := 7) (v := ?v21) rfl (by kernel_rfl) (by kernel_rfl) (by kernel_rfl) (fun _ _ _ h => h) (Or.inl ⟨by kernel_rfl, ?hy21⟩) (by assumption) ?_
              case hy21 => (intro w9 hS9; (try dsimp only at hS9); go_simp; (try with_reducible rfl))
              try simp only [Act.put, List.getElem_toArray, List.getElem_cons_succ, List.getElem_cons_zero, List.setIfInBounds_toArray, List.set_cons_zero, List.set_cons_succ]
              refine wpAnyH_ready (rs := [8]) (by kernel_rfl) (by simp) ?_
              refine AllReadyH.cons rfl (fun K9 hK9 => ?_) AllReadyH.nil
              rw [if_pos (by rfl)]
              go_simp
              refine hK9.out _ _ (trivial) (fun hHeld6 => ?_)
              clear hK9 K9
              try simp only [Act.put, List.getElem_toArray, List.getElem_cons_succ, List.getElem_cons_zero, List.setIfInBounds_toArray, List.set_cons_zero, List.set_cons_succ]
              refine wpAnyH_done (by kernel_rfl) ?_ _
              have HS9 := Lib.hid (hs6.low (HKn.low (by omega) (Nat.lt_succ_self _)))
              have HG9 := Lib.hid HGn
              have HK9 := Lib.hid ((HKz.out.trans HK6.out).trans HKn.weak)
              clear hs6 HGn HKn
              have HD9 := Lib.hid (HDr.out.step hc1 hlt (UInt8.ofNat c) (by simp; omega) (v := (r7 : Int)) (n := 1 + (r6 : Int)) (by omega) (by omega))
              go_wp2
              go_roundw
              case rel => exact ⟨c + 1, k6, _, _, _, _, _, by omega, by omega, by go_num, by omega, HS9, HG9, HD9, HK9⟩
              case measure => simp [intOf]; omega
            · rw [if_pos (by rfl)]
              go_wp2_with (go_at_call 33; refine (pick_any g bs k7 4 _ _ (HSz.out.below (below_drewN (Below.refl _ _) 1)) (by omega) rfl (by omega)).mono ?_; rintro e w6 ⟨r6, k6, rfl, hr6, hk6, hs6, hkk6⟩)
              have HG6 := Lib.hid ((HGz.out.below (below_drewN (Below.refl _ _) 1)).kept hkk6 (by omega))
              have hB6 : w2.heap.size + 1 ≤ w6.heap.size := Nat.le_trans hBc hkk6.size
              have hc6 := HG6.out.cell.2.2.1.1
              have HK6 := Lib.hid ((KeepD.of_below (B := w2.heap.size + 1) (gb := w2.heap.size) (g := g) (w := wc) (below_drewN (Below.refl _ _) 1) (by omega)).trans (KeepD.of_kept hkk6 (by exact hBc)))
              have hr6b : r6 ≤ 3 := by omega
              have hw6 : IntKind.i64.wrap (1 + (r6 : Int)) = 1 + (r6 : Int) := by rcases (by omega : r6 = 0 ∨ r6 = 1 ∨ r6 = 2 ∨ r6 = 3) with e | e | e | e <;> rw [e] <;> decide
              refine hK9.out _ _ (trivial) (fun hHeld2 => ?_)
              clear hK9 K9
              try simp only [Act.put, List.getElem_toArray, List.getElem_cons_succ, List.getElem_cons_zero, List.setIfInBounds_toArray, List.set_cons_zero, List.set_cons_succ]
              refine wpAnyH_take (i := 4) (v := ?v22) rfl (by kernel_rfl) (by kernel_rfl) (by kernel_rfl) (fun _ _ _ h => h) (Or.inl ⟨by kernel_rfl, ?hy22⟩) (by assumption) ?_
              case hy22 => (intro w9 hS9; (try dsimp only at hS9); go_simp; (try with_reducible rfl))
              try simp only [Act.put, List.getElem_toArray, List.getElem_cons_succ, List.getElem_cons_zero, List.setIfInBounds_toArray, List.set_cons_zero, List.set_cons_succ]
              refine wpAnyH_ready (rs := [1, 5]) (by kernel_rfl) (by simp) ?_
              refine AllReadyH.cons rfl (fun K9 hK9 => ?_) (AllReadyH.cons rfl (fun K9 hK9 => ?_) (AllReadyH.nil))
              · rw [if_pos (by rfl)]
                go_simp
                refine hK9.out _ _ (trivial) (fun hHeld3 => ?_)
                clear hK9 K9
                try simp only [Act.put, List.getElem_toArray, List.getElem_cons_succ, List.getElem_cons_zero, List.setIfInBounds_toArray, List.set_cons_zero, List.set_cons_succ]
                refine wpAnyH_ready (rs := [5]) (by kernel_rfl) (by simp) ?_
                refine AllReadyH.cons rfl (fun K9 hK9 => ?_) AllReadyH.nil
                rw [if_pos (by rfl)]
                have hc6a := cell_allocD (.cells #[.int .i64 (1 + (r6 : Int))] 2) hc6
                go_simp
                refine hK9.out _ _ (trivial) (fun hHeld4 => ?_)
                clear hK9 K9
                try simp only [Act.put, List.getElem_toArray, List.getElem_cons_succ, List.getElem_cons_zero, List.setIfInBounds_toArray, List.set_cons_zero, List.set_cons_succ]
                refine wpAnyH_ready (rs := [6]) (by kernel_rfl) (by simp) ?_
                refine AllReadyH.cons rfl (fun K9 hK9 => ?_) AllReadyH.nil
                refine step_append_lies _ ?_ (.tmp 46) (.tmp 50) 24 ?_ (w2.heap.size + 1) 2 iI (.int .i64 0) 1 8 Tryz.underlying24 hi hzA0 hzA1 hzA2 rfl (by decide) (.slice a2 C.length n2) C.length (C.map (Value.int .i64)) ?_ (OwnI.below HG6.out.o2 (one_belowD w6 _)) ⟨w6.heap.size, 0, none⟩ 1 1 [.int .i64 (1 + (r6 : Int))] ?_ rfl (new_cellsD w6 _ _ _ rfl) int_oneD (by decide) (by unfold maxLen; omega) (by omega) (Nat.le_trans hB6 (one_belowD w6 _).size) _ rfl ?_; rfl; rfl; rfl; rfl
                intro gn cap w8 hown8 hgr8 hloc8 hlt8
                obtain ⟨HGn, HKn, hcf, hcz⟩ := HG6.out.count (one_belowD w6 _) hB6 (1 + (r6 : Int)) gn cap hown8 hgr8 hloc8 w2.heap.size
                refine hK9.out _ _ (trivial) (fun hHeld5 => ?_)
                clear hK9 K9
                try simp only [Act.put, List.getElem_toArray, List.getElem_cons_succ, List.getElem_cons_zero, List.setIfInBounds_toArray, List.set_cons_zero, List.set_cons_succ]
                refine wpAnyH_take (i := 7) (v := ?v23) rfl (by kernel_rfl) (by kernel_rfl) (by kernel_rfl) (fun _ _ _ h => h) (Or.inl ⟨by kernel_rfl, ?hy23⟩) (by assumption) ?_
                case hy23 => (intro w9 hS9; (try dsimp only at hS9); go_simp; (try with_reducible rfl))
                try simp only [Act.put, List.getElem_toArray, List.getElem_cons_succ, List.getElem_cons_zero, List.setIfInBounds_toArray, List.set_cons_zero, List.set_cons_succ]
                refine wpAnyH_ready (rs := [8]) (by kernel_rfl) (by simp) ?_
                refine AllReadyH.cons rfl (fun K9 hK9 => ?_) AllReadyH.nil
                rw [if_pos (by rfl)]
                go_simp
                refine hK9.out _ _ (trivial) (fun hHeld6 => ?_)
                clear hK9 K9
                try simp only [Act.put, List.getElem_toArray, List.getElem_cons_succ, List.getElem_cons_zero, List.setIfInBounds_toArray, List.set_cons_zero, List.set_cons_succ]
                refine wpAnyH_done (by kernel_rfl) ?_ _
                have HS9 := Lib.hid (hs6.low (HKn.low (by omega) (Nat.lt_succ_self _)))
                have HG9 := Lib.hid HGn
                have HK9 := Lib.hid ((HKz.out.trans HK6.out).trans HKn.weak)
                clear hs6 HGn HKn
                have HD9 := Lib.hid (HDr.out.step hc1 hlt (UInt8.ofNat c) (by simp; omega) (v := (r7 : Int)) (n := 1 + (r6 : Int)) (by omega) (by omega))
                go_wp2
                go_roundw
                case rel => exact ⟨c + 1, k6, _, _, _, _, _, by omega, by omega, by go_num, by omega, HS9, HG9, HD9, HK9⟩
                case measure => simp [intOf]; omega
              · rw [if_pos (by rfl)]
                have hc6a := cell_allocD (.cells #[.int .i64 (1 + (r6 : Int))] 2) hc6
                go_simp
                refine hK9.out _ _ (trivial) (fun hHeld3 => ?_)
                clear hK9 K9
                try simp only [Act.put, List.getElem_toArray, List.getElem_cons_succ, List.getElem_cons_zero, List.setIfInBounds_toArray, List.set_cons_zero, List.set_cons_succ]
                refine wpAnyH_ready (rs := [1]) (by kernel_rfl) (by simp) ?_
                refine AllReadyH.cons rfl (fun K9 hK9 => ?_) AllReadyH.nil
                rw [if_pos (by rfl)]
                go_simp
                refine hK9.out _ _ (trivial) (fun hHeld4 => ?_)
                clear hK9 K9
                try simp only [Act.put, List.getElem_toArray, List.getElem_cons_succ, List.getElem_cons_zero, List.setIfInBounds_toArray, List.set_cons_zero, List.set_cons_succ]
                refine wpAnyH_ready (rs := [6]) (by kernel_rfl) (by simp) ?_
                refine AllReadyH.cons rfl (fun K9 hK9 => ?_) AllReadyH.nil
                refine step_append_lies _ ?_ (.tmp 46) (.tmp 50) 24 ?_ (w2.heap.size + 1) 2 iI (.int .i64 0) 1 8 Tryz.underlying24 hi hzA0 hzA1 hzA2 rfl (by decide) (.slice a2 C.length n2) C.length (C.map (Value.int .i64)) ?_ (OwnI.below HG6.out.o2 (one_belowD w6 _)) ⟨w6.heap.size, 0, none⟩ 1 1 [.int .i64 (1 + (r6 : Int))] ?_ rfl (new_cellsD w6 _ _ _ rfl) int_oneD (by decide) (by unfold maxLen; omega) (by omega) (Nat.le_trans hB6 (one_belowD w6 _).size) _ rfl ?_; rfl; rfl; rfl; rfl
                intro gn cap w8 hown8 hgr8 hloc8 hlt8
                obtain ⟨HGn, HKn, hcf, hcz⟩ := HG6.out.count (one_belowD w6 _) hB6 (1 + (r6 : Int)) gn cap hown8 hgr8 hloc8 w2.heap.size
                refine hK9.out _ _ (trivial) (fun hHeld5 => ?_)
                clear hK9 K9
                try simp only [Act.put, List.getElem_toArray, List.getElem_cons_succ, List.getElem_cons_zero, List.setIfInBounds_toArray, List.set_cons_zero, List.set_cons_succ]
                refine wpAnyH_take (i := 7) (v := ?v24) rfl (by kernel_rfl) (by kernel_rfl) (by kernel_rfl) (fun _ _ _ h => h) (Or.inl ⟨by kernel_rfl, ?hy24⟩) (by assumption) ?_
                case hy24 => (intro w9 hS9; (try dsimp only at hS9); go_simp; (try with_reducible rfl))
                try simp only [Act.put, List.getElem_toArray, List.getElem_cons_succ, List.getElem_cons_zero, List.setIfInBounds_toArray, List.set_cons_zero, List.set_cons_succ]
                refine wpAnyH_ready (rs := [8]) (by kernel_rfl) (by simp) ?_
                refine AllReadyH.cons rfl (fun K9 hK9 => ?_) AllReadyH.nil
                rw [if_pos (by rfl)]
                go_simp
                refine hK9.out _ _ (trivial) (fun hHeld6 => ?_)
                clear hK9 K9
                try simp only [Act.put, List.getElem_toArray, List.getElem_cons_succ, List.getElem_cons_zero, List.setIfInBounds_toArray, List.set_cons_zero, List.set_cons_succ]
                refine wpAnyH_done (by kernel_rfl) ?_ _
                have HS9 := Lib.hid (hs6.low (HKn.low (by omega) (Nat.lt_succ_self _)))
                have HG9 := Lib.hid HGn
                have HK9 := Lib.hid ((HKz.out.trans HK6.out).trans HKn.weak)
                clear hs6 HGn HKn
                have HD9 := Lib.hid (HDr.out.step hc1 hlt (UInt8.ofNat c) (by simp; omega) (v := (r7 : Int)) (n := 1 + (r6 : Int)) (by omega) (by omega))
                go_wp2
                go_roundw
                case rel => exact ⟨c + 1, k6, _, _, _, _, _, by omega, by omega, by go_num, by omega, HS9, HG9, HD9, HK9⟩
                case measure => simp [intOf]; omega
      · obtain rfl : c = 123 := by omega
        have hltI : ¬ ((123 : Nat) : Int) ≤ 122 := by omega
        have hHb := HDr.out.tilP
        obtain ⟨⟨c0, z0⟩, ⟨c1, z1⟩, ⟨c2, z2⟩, ⟨c3, z3⟩⟩ := HGr.out.cell
        obtain ⟨a1, n1, ev1, -, -⟩ := HGr.out.o1.shape
        obtain ⟨a2, n2, ev2, -, -⟩ := HGr.out.o2.shape
        subst ev1
        subst ev2
        have HR := Lib.hid ((HKr.out.block w.heap.size (by omega) (by omega) (by omega)).trans HRx.out)
        obtain ⟨d0, y0⟩ := box_cell (i := 0) (v := .string ⟨#[]⟩) HR.out rfl
        obtain ⟨d1, y1⟩ := box_cell (i := 1) (v := .slice none 0 0) HR.out rfl
        obtain ⟨d2, y2⟩ := box_cell (i := 2) (v := .slice none 0 0) HR.out rfl
        obtain ⟨d3, y3⟩ := box_cell (i := 3) (v := .int .i64 0) HR.out rfl
        have HT := Lib.hid hHb
        clear hHb
        go_wp2
        have st := store4 HR.out (.string L) (.slice a1 V.length n1) (.slice a2 C.length n2) (.int .i64 (r : Int))
        refine bodyPost_ret (v := .agg #[.string L, .slice a1 V.length n1, .slice a2 C.length n2, .int .i64 (r : Int)]) (results_cell_row (p := 2) (ty := 26) rfl _ _ w.heap.size _ _ _ _ rfl st.1 Tryz.underlying26 rfl infoTil) rfl ⟨_, rfl, ⟨⟨L, V, C, (r : Int)⟩, (HGr.out.kept st.2.1 (by omega)).tilW HDr.out, HT.out⟩, (HKr.out.kept Kx.out (by omega) (Nat.lt_succ_self _)).then_new st.2.1 (Nat.le_refl _)⟩
  · go_wp2_with fail
    refine (stdNames_made _).mono ?_
    rintro e w2 ⟨rfl, hw2⟩
    have hb2 : Below w1.heap.size w1 w2 := by rw [hw2]; exact one_belowD _ _
    have hst := strs_built w1 stdNames (by decide) (by decide)
    rw [← hw2] at hst
    have HS2 := Lib.hid (HS1.out.below hb2)
    have K2 := Lib.hid (K1.out.trans (Kept.of_below hb2))
    have HR2 := Lib.hid ((hb2.block w.heap.size (by omega)).trans HRes.out)
    have hz2 := hb2.size
    clear hw2 hb2
    go_wp2_with fail
    refine (text_any g bs k1 _ stdNames _ HS2.out (by omega) hst (by decide) (by decide) (fun a n c e p hp => ?_)).mono ?_
    · cases e; cases hp; show w1.heap.size ≠ g; omega
    rintro e w3 ⟨t, k3, rfl, htm, hk3, hs3, hkk3⟩
    have hz3 := hkk3.size
    have K3 := Lib.hid (K2.out.trans hkk3)
    have HR3 := Lib.hid ((hkk3.block w.heap.size (by omega) (.inr (by omega))).trans HR2.out)
    have HT := Lib.hid (std_tilP htm)
    have hts : t.size ≤ 1048576 := by
      simp only [stdNames, List.mem_cons, List.not_mem_nil, or_false] at htm
      rcases htm with rfl | rfl <;> decide
    have HB3 := Lib.hid (H0.out.trans (K3.out.below hg0 hz0))
    clear hkk3 hs3 hst htm
    go_wp2_with fail
    refine (specStandardTiles_any t _ hts (HML.out.below HB3.out) (HTab.out.below HB3.out) (HErr.out.below HB3.out)).mono ?_
    rintro e w4 ⟨v4, rfl, hx4, hb4⟩
    have HX4 := Lib.hid hx4
    have hx5 := hx4.read
    obtain ⟨s1, s2, rfl, hl4, i1, i2, i3⟩ := hx5
    obtain ⟨a1, n1, rfl, -, -, -⟩ := i1.shape
    obtain ⟨a2, n2, rfl, -, -, -⟩ := i2.shape
    have hb5 := one_belowD w4 (.cells #[.string (stV t).letters, .slice a1 (stV t).values.length n1, .slice a2 (stV t).counts.length n2, .int .i64 (stV t).blanks] 26)
    have hz4 := hb4.size
    have HR5 := Lib.hid ((hb5.block w.heap.size (by omega)).trans ((hb4.block w.heap.size (by omega)).trans HR3.out))
    have HB5 := Lib.hid hb5
    have K5 := Lib.hid ((K3.out.trans (Kept.of_below hb4)).trans (Kept.of_below hb5))
    have hbx := heap_alloc_new w4 (.cells #[.string (stV t).letters, .slice a1 (stV t).values.length n1, .slice a2 (stV t).counts.length n2, .int .i64 (stV t).blanks] 26)
    have hz5 := hb5.size
    have HXn := Lib.hid hbx
    obtain ⟨d0, y0⟩ := box_cell (i := 0) (v := .string ⟨#[]⟩) HR5.out rfl
    obtain ⟨d1, y1⟩ := box_cell (i := 1) (v := .slice none 0 0) HR5.out rfl
    obtain ⟨d2, y2⟩ := box_cell (i := 2) (v := .slice none 0 0) HR5.out rfl
    obtain ⟨d3, y3⟩ := box_cell (i := 3) (v := .int .i64 0) HR5.out rfl
    obtain ⟨c0, z0⟩ := box_cell (i := 0) (v := .string (stV t).letters) hbx rfl
    obtain ⟨c1, z1⟩ := box_cell (i := 1) (v := .slice a1 (stV t).values.length n1) hbx rfl
    obtain ⟨c2, z2⟩ := box_cell (i := 2) (v := .slice a2 (stV t).counts.length n2) hbx rfl
    obtain ⟨c3, z3⟩ := box_cell (i := 3) (v := .int .i64 (stV t).blanks) hbx rfl
    clear hb4 hb5 hx4 i1 i2 i3 hbx
    go_wp2
    have st := store4 HR5.out (.string (stV t).letters) (.slice a1 (stV t).values.length n1) (.slice a2 (stV t).counts.length n2) (.int .i64 (stV t).blanks)
    refine bodyPost_ret (v := .agg #[.string (stV t).letters, .slice a1 (stV t).values.length n1, .slice a2 (stV t).counts.length n2, .int .i64 (stV t).blanks]) (results_cell_row (p := 2) (ty := 26) rfl _ _ w.heap.size _ _ _ _ rfl st.1 Tryz.underlying26 rfl infoTil) rfl ⟨_, rfl, ⟨stV t, ((HX4.out.below HB5.out).kept st.2.1 (.inr (by omega))).toW (by omega) (by rw [st.2.2]; exact HB5.out.size), HT.out⟩, K5.out.then_new st.2.1 (Nat.le_refl _)⟩

end Go.Proofs.YtinmmbnlflmobaaGreatDoor
