/- WordOf of both sides. Conditions: the readings; MaxLen's cell. -/
import Derived.Test.YtgefgdkejenhnaaDoorWob
import Derived.Test.YtgefgdkejenhnaaDoorWa
import Derived.Test.YtgefgdkejenhnaaDoorVj
set_option linter.unusedSimpArgs false
namespace Go.Proofs.YtgefgdkejenhnaaDoor
open Go.RowKit
theorem keepF {W0 w' w'' : World} (hb : Below w'.heap.size w' w'') (h : Below W0.heap.size W0 w') : Below W0.heap.size W0 w'' := h.trans (hb.mono h.size)
attribute [local irreducible] Calls
/-- What l04Word and applied come to. -/
def WordPost (l : List AffD) (s : ByteArray) (ns : List ByteArray) (e : Ending) : Prop := e = .returned (.tuple #[.string (wordV l s ns).1, .int .i64 (wordV l s ns).2])
set_option maxHeartbeats 4000000 in
set_option maxRecDepth 100000 in
theorem l04Word_any (g : Nat) (s1 v : Value) (l : List AffD) (s : ByteArray) (names : List ByteArray) (w : World) (h0 : w.cell? ⟨g, 0, none⟩ = some s1) (ha : Affs w s1 l) (hok : AffsOk l) (hs : isLong s = true) (hn : Strs w v names) (hin : ∀ n ∈ names, hasB l n = true) :
    Calls Tryd.prog 41 #[.pointer (some ⟨g, 0, none⟩), .string s, v] w fun e w' => WordPost l s names e ∧ Below w.heap.size w w' := by
  have HA := Lib.hid ha
  have Hok0 := Lib.hid hok
  have Hin := Lib.hid hin
  have Hs := Lib.hid hs
  obtain ⟨a1, k1, rfl, hl1, hk1, hcs1⟩ := ha.shape
  obtain ⟨a2, k2, rfl, hl2, hk2, hcs2⟩ := hn.shape
  unfold maxLen at hk1 hk2
  clear ha hn hok hin hs
  go_enter Tryd.func41, Tryd.ntmps41
  go_wp2
  go_loopw [1, 8] (fun cv i wr => ∃ (j : Nat) (cur : ByteArray), j ≤ names.length ∧ i = .int .i64 (j : Int) ∧ cv = .string cur ∧ Hid (WordAt l s names j cur) ∧ Below w.heap.size w wr) (fun _ i _ => names.length - (intOf i).toNat)
  case atStart => exact ⟨0, s, by omega, rfl, rfl, Lib.hid (WordAt.start Hs.out), Below.refl _ _⟩
  case round =>
    obtain ⟨j, cur, hj, rfl, rfl, Hat, hb⟩ := hrel
    have HB := Lib.hid hb
    by_cases hlt : j < names.length
    · obtain ⟨b2, o2, rfl, c2, -⟩ := hcs2 j hlt
      have c2 := cell_below hb c2
      obtain ⟨i, hi, hin1, hin2, hfi, haf⟩ := hasB_at (Hin.out names[j] (List.getElem_mem hlt))
      obtain ⟨b1, o1, rfl, e0, e1, e2, e3, e4, hlim⟩ := hcs1 i hi
      have HAt : Hid (AffAt w b1 (o1 + i * 5) l[i]) := Lib.hid ⟨e0, e1, e2, e3, e4, hlim⟩
      have Hok := Lib.hid (Hok0.out i hi).1
      have Hcur := Lib.hid Hat.out.2
      have c0 := cell_below hb h0
      have Haf := Lib.hid haf
      have hii : (i : Int) < (l.length : Int) := by omega
      have hi0 : (0 : Int) ≤ (i : Int) := by omega
      have hjI : (j : Int) < (names.length : Int) := by omega
      have hj0 : (0 : Int) ≤ (j : Int) := by omega
      clear hcs1 hcs2 hb hin1 hin2 e0 e1 e2 e3 e4 hlim haf
      have hcode := apV_code l[i] cur
      go_wp2_with fail
      go_cut [9, 10] (fun s9 s10 wx => s9 = .string (apV l[i] cur).1 ∧ s10 = .int .i64 (apV l[i] cur).2 ∧ Below w.heap.size w wx)
      case first =>
        refine wp_region_held_drew (S := (fun w' => w'.cell? ⟨g, 0, none⟩ = some (.slice (some ⟨b1, o1, none⟩) l.length k1) ∧ w'.cell? ⟨b2, o2 + j, none⟩ = some (.string names[j]) ∧ Below w.heap.size w w')) (by kernel_rfl) ?_ (fun hHeld => ?_)
        · exact ⟨c0, c2, HB.out.drew⟩
        refine wpAnyH_take (i := 0) (v := ?v1) rfl (by kernel_rfl) (by kernel_rfl) (by kernel_rfl) (fun _ _ _ h => h) (Or.inl ⟨by kernel_rfl, ?hy1⟩) (by assumption) ?_
        case hy1 => (intro w9 hS9; (try dsimp only at hS9); go_simp; (try with_reducible rfl))
        try simp only [Act.put, List.getElem_toArray, List.getElem_cons_succ, List.getElem_cons_zero, List.setIfInBounds_toArray, List.set_cons_zero, List.set_cons_succ]
        refine wpAnyH_take (i := 1) (v := ?v2) rfl (by kernel_rfl) (by kernel_rfl) (by kernel_rfl) (fun _ _ _ h => h) (Or.inl ⟨by kernel_rfl, ?hy2⟩) (by assumption) ?_
        case hy2 => (intro w9 hS9; (try dsimp only at hS9); go_simp; (try with_reducible rfl))
        try simp only [Act.put, List.getElem_toArray, List.getElem_cons_succ, List.getElem_cons_zero, List.setIfInBounds_toArray, List.set_cons_zero, List.set_cons_succ]
        refine wpAnyH_take (i := 2) (v := ?v3) rfl (by kernel_rfl) (by kernel_rfl) (by kernel_rfl) (fun _ _ _ h => h) (Or.inl ⟨by kernel_rfl, ?hy3⟩) (by assumption) ?_
        case hy3 => (intro w9 hS9; (try dsimp only at hS9); go_simp; (try with_reducible rfl))
        try simp only [Act.put, List.getElem_toArray, List.getElem_cons_succ, List.getElem_cons_zero, List.setIfInBounds_toArray, List.set_cons_zero, List.set_cons_succ]
        refine wpAnyH_take (i := 3) (v := ?v4) rfl (by kernel_rfl) (by kernel_rfl) (by kernel_rfl) (fun _ _ _ h => h) (Or.inl ⟨by kernel_rfl, ?hy4⟩) (by assumption) ?_
        case hy4 => (intro w9 hS9; (try dsimp only at hS9); go_simp; (try with_reducible rfl))
        try simp only [Act.put, List.getElem_toArray, List.getElem_cons_succ, List.getElem_cons_zero, List.setIfInBounds_toArray, List.set_cons_zero, List.set_cons_succ]
        refine wpAnyH_take (i := 4) (v := ?v5) rfl (by kernel_rfl) (by kernel_rfl) (by kernel_rfl) (fun _ _ _ h => h) (Or.inl ⟨by kernel_rfl, ?hy5⟩) (by assumption) ?_
        case hy5 => (intro w9 hS9; (try dsimp only at hS9); go_simp; (try with_reducible rfl))
        try simp only [Act.put, List.getElem_toArray, List.getElem_cons_succ, List.getElem_cons_zero, List.setIfInBounds_toArray, List.set_cons_zero, List.set_cons_succ]
        refine wpAnyH_take (i := 5) (v := ?v6) rfl (by kernel_rfl) (by kernel_rfl) (by kernel_rfl) (fun _ _ _ h => h) (Or.inl ⟨by kernel_rfl, ?hy6⟩) (by assumption) ?_
        case hy6 => (intro w9 hS9; (try dsimp only at hS9); go_simp; (try with_reducible rfl))
        try simp only [Act.put, List.getElem_toArray, List.getElem_cons_succ, List.getElem_cons_zero, List.setIfInBounds_toArray, List.set_cons_zero, List.set_cons_succ]
        refine wpAnyH_take (i := 6) (v := ?v7) rfl (by kernel_rfl) (by kernel_rfl) (by kernel_rfl) (fun _ _ _ h => h) (Or.inl ⟨by kernel_rfl, ?hy7⟩) (by assumption) ?_
        case hy7 => (intro w9 hS9; (try dsimp only at hS9); go_simp; (try with_reducible rfl))
        try simp only [Act.put, List.getElem_toArray, List.getElem_cons_succ, List.getElem_cons_zero, List.setIfInBounds_toArray, List.set_cons_zero, List.set_cons_succ]
        refine wpAnyH_take (i := 7) (v := ?v8) rfl (by kernel_rfl) (by kernel_rfl) (by kernel_rfl) (fun _ _ _ h => h) (Or.inl ⟨by kernel_rfl, ?hy8⟩) (by assumption) ?_
        case hy8 => (intro w9 hS9; (try dsimp only at hS9); go_simp; (try with_reducible rfl))
        try simp only [Act.put, List.getElem_toArray, List.getElem_cons_succ, List.getElem_cons_zero, List.setIfInBounds_toArray, List.set_cons_zero, List.set_cons_succ]
        refine wpAnyH_take (i := 8) (v := ?v9) rfl (by kernel_rfl) (by kernel_rfl) (by kernel_rfl) (fun _ _ _ h => h) (Or.inl ⟨by kernel_rfl, ?hy9⟩) (by assumption) ?_
        case hy9 => (intro w9 hS9; (try dsimp only at hS9); go_simp; (try with_reducible rfl))
        try simp only [Act.put, List.getElem_toArray, List.getElem_cons_succ, List.getElem_cons_zero, List.setIfInBounds_toArray, List.set_cons_zero, List.set_cons_succ]
        refine wpAnyH_take (i := 11) (v := ?v10) rfl (by kernel_rfl) (by kernel_rfl) (by kernel_rfl) (fun _ _ _ h => h) (Or.inl ⟨by kernel_rfl, ?hy10⟩) (by assumption) ?_
        case hy10 => (intro w9 hS9; (try dsimp only at hS9); go_simp; (try with_reducible rfl))
        try simp only [Act.put, List.getElem_toArray, List.getElem_cons_succ, List.getElem_cons_zero, List.setIfInBounds_toArray, List.set_cons_zero, List.set_cons_succ]
        refine wpAnyH_ready (rs := [9]) (by kernel_rfl) (by simp) ?_
        refine AllReadyH.cons rfl (fun K9 hK9 => ?_) AllReadyH.nil
        rw [if_pos (by rfl)]
        go_wp2_with (go_at_call 71; refine (l04Find_any g _ l names[j] _ hHeld.1 (HA.out.below hHeld.2.2)).mono ?_; rintro e w2 ⟨rfl, rfl⟩; rw [hfi])
        refine hK9.out _ _ (hHeld) (fun hHeld2 => ?_)
        clear hK9 K9
        try simp only [Act.put, List.getElem_toArray, List.getElem_cons_succ, List.getElem_cons_zero, List.setIfInBounds_toArray, List.set_cons_zero, List.set_cons_succ]
        refine wpAnyH_take (i := 10) (v := ?v11) rfl (by kernel_rfl) (by kernel_rfl) (by kernel_rfl) (fun _ _ _ h => h) (Or.inl ⟨by kernel_rfl, ?hy11⟩) (by assumption) ?_
        case hy11 => (intro w9 hS9; (try dsimp only at hS9); go_simp; (try with_reducible rfl))
        try simp only [Act.put, List.getElem_toArray, List.getElem_cons_succ, List.getElem_cons_zero, List.setIfInBounds_toArray, List.set_cons_zero, List.set_cons_succ]
        refine wpAnyH_ready (rs := [12]) (by kernel_rfl) (by simp) ?_
        refine AllReadyH.cons rfl (fun K9 hK9 => ?_) AllReadyH.nil
        rw [if_pos (by rfl)]
        go_wp2_with (go_at_call 82; refine (l04ApplyAt_any b1 (o1 + i * 5) l[i] cur _ (HAt.out.below hHeld2.2.2) Hok.out Hcur.out).mono ?_; rintro e w3 ⟨rfl, hbk⟩; have hbk2 := hbk)
        refine hK9.out _ _ (keepC hbk hHeld2 fun h => keepC hbk h fun h => keepF hbk h) (fun hHeld3 => ?_)
        clear hK9 K9
        try simp only [Act.put, List.getElem_toArray, List.getElem_cons_succ, List.getElem_cons_zero, List.setIfInBounds_toArray, List.set_cons_zero, List.set_cons_succ]
        refine wpAnyH_take (i := 13) (v := ?v12) rfl (by kernel_rfl) (by kernel_rfl) (by kernel_rfl) (fun _ _ _ h => h) (Or.inl ⟨by kernel_rfl, ?hy12⟩) (by assumption) ?_
        case hy12 => (intro w9 hS9; (try dsimp only at hS9); go_simp; (try with_reducible rfl))
        try simp only [Act.put, List.getElem_toArray, List.getElem_cons_succ, List.getElem_cons_zero, List.setIfInBounds_toArray, List.set_cons_zero, List.set_cons_succ]
        refine wpAnyH_take (i := 14) (v := ?v13) rfl (by kernel_rfl) (by kernel_rfl) (by kernel_rfl) (fun _ _ _ h => h) (Or.inl ⟨by kernel_rfl, ?hy13⟩) (by assumption) ?_
        case hy13 => (intro w9 hS9; (try dsimp only at hS9); go_simp; (try with_reducible rfl))
        try simp only [Act.put, List.getElem_toArray, List.getElem_cons_succ, List.getElem_cons_zero, List.setIfInBounds_toArray, List.set_cons_zero, List.set_cons_succ]
        refine wpAnyH_take (i := 15) (v := ?v14) rfl (by kernel_rfl) (by kernel_rfl) (by kernel_rfl) (fun _ _ _ h => h) (Or.inl ⟨by kernel_rfl, ?hy14⟩) (by assumption) ?_
        case hy14 => (intro w9 hS9; (try dsimp only at hS9); go_simp; (try with_reducible rfl))
        try simp only [Act.put, List.getElem_toArray, List.getElem_cons_succ, List.getElem_cons_zero, List.setIfInBounds_toArray, List.set_cons_zero, List.set_cons_succ]
        refine wpAnyH_take (i := 16) (v := ?v15) rfl (by kernel_rfl) (by kernel_rfl) (by kernel_rfl) (fun _ _ _ h => h) (Or.inl ⟨by kernel_rfl, ?hy15⟩) (by assumption) ?_
        case hy15 => (intro w9 hS9; (try dsimp only at hS9); go_simp; (try with_reducible rfl))
        try simp only [Act.put, List.getElem_toArray, List.getElem_cons_succ, List.getElem_cons_zero, List.setIfInBounds_toArray, List.set_cons_zero, List.set_cons_succ]
        refine wpAnyH_take (i := 17) (v := ?v16) rfl (by kernel_rfl) (by kernel_rfl) (by kernel_rfl) (fun _ _ _ h => h) (Or.inl ⟨by kernel_rfl, ?hy16⟩) (by assumption) ?_
        case hy16 => (intro w9 hS9; (try dsimp only at hS9); go_simp; (try with_reducible rfl))
        try simp only [Act.put, List.getElem_toArray, List.getElem_cons_succ, List.getElem_cons_zero, List.setIfInBounds_toArray, List.set_cons_zero, List.set_cons_succ]
        refine wpAnyH_done (by kernel_rfl) ?_ _
        have HB3 := Lib.hid hHeld3.2.2
        clear hHeld hHeld2 hHeld3 hbk hbk2
        go_wp2_with fail
        go_meet
        exact ⟨rfl, rfl, HB3.out⟩
      case rest =>
        obtain ⟨rfl, rfl, hb3⟩ := hcut
        have HB3 := Lib.hid hb3
        clear hb3
        by_cases hz : (apV l[i] cur).2 = 0
        · have Hnx := Lib.hid (show WordAt l s names (j + 1) (apV l[i] cur).1 by have := Hat.out.next hlt (by rw [Haf.out]; exact hz); rwa [Haf.out] at this)
          have hzq : ((apV l[i] cur).2 != 0) = false := by rw [hz]; rfl
          clear hz hcode
          go_wp2
          go_roundw
          case rel => exact ⟨j + 1, _, by omega, by go_num, rfl, Hnx, HB3.out⟩
          case measure => simp [intOf]; omega
        · have Hfl := Lib.hid (show wordV l s names = (⟨#[]⟩, (apV l[i] cur).2) by have := Hat.out.fail hlt (by rw [Haf.out]; exact hz); rwa [Haf.out] at this)
          have hzq : ((apV l[i] cur).2 != 0) = true := by rw [bne_iff_ne]; exact hz
          clear hz hcode
          go_wp2
          go_ret2
          exact ⟨by unfold WordPost; rw [Hfl.out]; rfl, HB3.out⟩
    · have Hd := Lib.hid (Hat.out.done (by omega))
      clear hcs1 hcs2
      go_wp2
      go_ret2
      exact ⟨by unfold WordPost; rw [Hd.out]; rfl, hb⟩
end Go.Proofs.YtgefgdkejenhnaaDoor
