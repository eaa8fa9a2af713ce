/- Several texts of this proof, joined: each is headed by its own sentence. Their conditions stand there. -/
import Derived.Test.YtndfhmphlomeiaaGreatDoorK4
import Derived.Test.YtndfhmphlomeiaaGreatDoorVj
import Derived.Test.YtndfhmphlomeiaaGreatDoorK2
import Derived.Test.YtndfhmphlomeiaaGreatDoorK0
set_option linter.unusedSimpArgs false
/- WordOf of both sides. Conditions: the readings; MaxLen's cell. -/
namespace Go.Proofs.YtndfhmphlomeiaaGreatDoor
open Go.RowKit
theorem keepF {W0 w' w'' : World} (hb : Below w'.heap.size w' w'') (h : Below W0.heap.size W0 w') : Below W0.heap.size W0 w'' := h.trans (hb.mono h.size)
attribute [local irreducible] Calls
/-- What l04Word and applied come to. -/
def WordPost (l : List AffD) (s : ByteArray) (ns : List ByteArray) (e : Ending) : Prop := e = .returned (.tuple #[.string (wordV l s ns).1, .int .i64 (wordV l s ns).2])
set_option maxHeartbeats 4000000 in
set_option maxRecDepth 100000 in
theorem l04Word_any (g : Nat) (s1 v : Value) (l : List AffD) (s : ByteArray) (names : List ByteArray) (w : World) (h0 : w.cell? ⟨g, 0, none⟩ = some s1) (ha : Affs w s1 l) (hok : AffsOk l) (hs : isLong s = true) (hn : Strs w v names) (hin : ∀ n ∈ names, hasB l n = true) :
    Calls Tryz.prog 41 #[.pointer (some ⟨g, 0, none⟩), .string s, v] w fun e w' => WordPost l s names e ∧ Below w.heap.size w w' := by
  have HA := Lib.hid ha
  have Hok0 := Lib.hid hok
  have Hin := Lib.hid hin
  have Hs := Lib.hid hs
  obtain ⟨a1, k1, rfl, hl1, hk1, hcs1⟩ := ha.shape
  obtain ⟨a2, k2, rfl, hl2, hk2, hcs2⟩ := hn.shape
  unfold maxLen at hk1 hk2
  clear ha hn hok hin hs
  go_enter Tryz.func41, Tryz.ntmps41
  go_wp2
  go_loopw [1, 8] (fun cv i wr => ∃ (j : Nat) (cur : ByteArray), j ≤ names.length ∧ i = .int .i64 (j : Int) ∧ cv = .string cur ∧ Hid (WordAt l s names j cur) ∧ Below w.heap.size w wr) (fun _ i _ => names.length - (intOf i).toNat)
  case atStart => exact ⟨0, s, by omega, rfl, rfl, Lib.hid (WordAt.start Hs.out), Below.refl _ _⟩
  case round =>
    obtain ⟨j, cur, hj, rfl, rfl, Hat, hb⟩ := hrel
    have HB := Lib.hid hb
    by_cases hlt : j < names.length
    · obtain ⟨b2, o2, rfl, c2, -⟩ := hcs2 j hlt
      have c2 := cell_below hb c2
      obtain ⟨i, hi, hin1, hin2, hfi, haf⟩ := hasB_at (Hin.out names[j] (List.getElem_mem hlt))
      obtain ⟨b1, o1, rfl, e0, e1, e2, e3, e4, hlim⟩ := hcs1 i hi
      have HAt : Hid (AffAt w b1 (o1 + i * 5) l[i]) := Lib.hid ⟨e0, e1, e2, e3, e4, hlim⟩
      have Hok := Lib.hid (Hok0.out i hi).1
      have Hcur := Lib.hid Hat.out.2
      have c0 := cell_below hb h0
      have Haf := Lib.hid haf
      have hii : (i : Int) < (l.length : Int) := by omega
      have hi0 : (0 : Int) ≤ (i : Int) := by omega
      have hjI : (j : Int) < (names.length : Int) := by omega
      have hj0 : (0 : Int) ≤ (j : Int) := by omega
      clear hcs1 hcs2 hb hin1 hin2 e0 e1 e2 e3 e4 hlim haf
      have hcode := apV_code l[i] cur
      go_wp2_with fail
      go_cut [9, 10] (fun s9 s10 wx => s9 = .string (apV l[i] cur).1 ∧ s10 = .int .i64 (apV l[i] cur).2 ∧ Below w.heap.size w wx)
      case first =>
        refine wp_region_held_drew (S := (fun w' => w'.cell? ⟨g, 0, none⟩ = some (.slice (some ⟨b1, o1, none⟩) l.length k1) ∧ w'.cell? ⟨b2, o2 + j, none⟩ = some (.string names[j]) ∧ Below w.heap.size w w')) (by kernel_rfl) ?_ (fun hHeld => ?_)
        · exact ⟨c0, c2, HB.out.drew⟩
        refine wpAnyH_take (i := 0) (v := ?v1) rfl (by kernel_rfl) (by kernel_rfl) (by kernel_rfl) (fun _ _ _ h => h) (Or.inl ⟨by kernel_rfl, ?hy1⟩) (by assumption) ?_
        case hy1 => (intro w9 hS9; (try dsimp only at hS9); go_simp; (try with_reducible rfl))
        try simp only [Act.put, List.getElem_toArray, List.getElem_cons_succ, List.getElem_cons_zero, List.setIfInBounds_toArray, List.set_cons_zero, List.set_cons_succ]
        refine wpAnyH_take (i := 1) (v := ?v2) rfl (by kernel_rfl) (by kernel_rfl) (by kernel_rfl) (fun _ _ _ h => h) (Or.inl ⟨by kernel_rfl, ?hy2⟩) (by assumption) ?_
        case hy2 => (intro w9 hS9; (try dsimp only at hS9); go_simp; (try with_reducible rfl))
        try simp only [Act.put, List.getElem_toArray, List.getElem_cons_succ, List.getElem_cons_zero, List.setIfInBounds_toArray, List.set_cons_zero, List.set_cons_succ]
        refine wpAnyH_take (i := 2) (v := ?v3) rfl (by kernel_rfl) (by kernel_rfl) (by kernel_rfl) (fun _ _ _ h => h) (Or.inl ⟨by kernel_rfl, ?hy3⟩) (by assumption) ?_
        case hy3 => (intro w9 hS9; (try dsimp only at hS9); go_simp; (try with_reducible rfl))
        try simp only [Act.put, List.getElem_toArray, List.getElem_cons_succ, List.getElem_cons_zero, List.setIfInBounds_toArray, List.set_cons_zero, List.set_cons_succ]
        refine wpAnyH_take (i := 3) (v := ?v4) rfl (by kernel_rfl) (by kernel_rfl) (by kernel_rfl) (fun _ _ _ h => h) (Or.inl ⟨by kernel_rfl, ?hy4⟩) (by assumption) ?_
        case hy4 => (intro w9 hS9; (try dsimp only at hS9); go_simp; (try with_reducible rfl))
        try simp only [Act.put, List.getElem_toArray, List.getElem_cons_succ, List.getElem_cons_zero, List.setIfInBounds_toArray, List.set_cons_zero, List.set_cons_succ]
        refine wpAnyH_take (i := 4) (v := ?v5) rfl (by kernel_rfl) (by kernel_rfl) (by kernel_rfl) (fun _ _ _ h => h) (Or.inl ⟨by kernel_rfl, ?hy5⟩) (by assumption) ?_
        case hy5 => (intro w9 hS9; (try dsimp only at hS9); go_simp; (try with_reducible rfl))
        try simp only [Act.put, List.getElem_toArray, List.getElem_cons_succ, List.getElem_cons_zero, List.setIfInBounds_toArray, List.set_cons_zero, List.set_cons_succ]
        refine wpAnyH_take (i := 5) (v := ?v6) rfl (by kernel_rfl) (by kernel_rfl) (by kernel_rfl) (fun _ _ _ h => h) (Or.inl ⟨by kernel_rfl, ?hy6⟩) (by assumption) ?_
        case hy6 => (intro w9 hS9; (try dsimp only at hS9); go_simp; (try with_reducible rfl))
        try simp only [Act.put, List.getElem_toArray, List.getElem_cons_succ, List.getElem_cons_zero, List.setIfInBounds_toArray, List.set_cons_zero, List.set_cons_succ]
        refine wpAnyH_take (i := 6) (v := ?v7) rfl (by kernel_rfl) (by kernel_rfl) (by kernel_rfl) (fun _ _ _ h => h) (Or.inl ⟨by kernel_rfl, ?hy7⟩) (by assumption) ?_
        case hy7 => (intro w9 hS9; (try dsimp only at hS9); go_simp; (try with_reducible rfl))
        try simp only [Act.put, List.getElem_toArray, List.getElem_cons_succ, List.getElem_cons_zero, List.setIfInBounds_toArray, List.set_cons_zero, List.set_cons_succ]
        refine wpAnyH_take (i := 7) (v := ?v8) rfl (by kernel_rfl) (by kernel_rfl) (by kernel_rfl) (fun _ _ _ h => h) (Or.inl ⟨by kernel_rfl, ?hy8⟩) (by assumption) ?_
        case hy8 => (intro w9 hS9; (try dsimp only at hS9); go_simp; (try with_reducible rfl))
        try simp only [Act.put, List.getElem_toArray, List.getElem_cons_succ, List.getElem_cons_zero, List.setIfInBounds_toArray, List.set_cons_zero, List.set_cons_succ]
        refine wpAnyH_take (i := 8) (v := ?v9) rfl (by kernel_rfl) (by kernel_rfl) (by kernel_rfl) (fun _ _ _ h => h) (Or.inl ⟨by kernel_rfl, ?hy9⟩) (by assumption) ?_
        case hy9 => (intro w9 hS9; (try dsimp only at hS9); go_simp; (try with_reducible rfl))
        try simp only [Act.put, List.getElem_toArray, List.getElem_cons_succ, List.getElem_cons_zero, List.setIfInBounds_toArray, List.set_cons_zero, List.set_cons_succ]
        refine wpAnyH_take (i := 11) (v := ?v10) rfl (by kernel_rfl) (by kernel_rfl) (by kernel_rfl) (fun _ _ _ h => h) (Or.inl ⟨by kernel_rfl, ?hy10⟩) (by assumption) ?_
        case hy10 => (intro w9 hS9; (try dsimp only at hS9); go_simp; (try with_reducible rfl))
        try simp only [Act.put, List.getElem_toArray, List.getElem_cons_succ, List.getElem_cons_zero, List.setIfInBounds_toArray, List.set_cons_zero, List.set_cons_succ]
        refine wpAnyH_ready (rs := [9]) (by kernel_rfl) (by simp) ?_
        refine AllReadyH.cons rfl (fun K9 hK9 => ?_) AllReadyH.nil
        rw [if_pos (by rfl)]
        go_wp2_with (go_at_call 55; refine (l04Find_any g _ l names[j] _ hHeld.1 (HA.out.below hHeld.2.2)).mono ?_; rintro e w2 ⟨rfl, rfl⟩; rw [hfi])
        refine hK9.out _ _ (hHeld) (fun hHeld2 => ?_)
        clear hK9 K9
        try simp only [Act.put, List.getElem_toArray, List.getElem_cons_succ, List.getElem_cons_zero, List.setIfInBounds_toArray, List.set_cons_zero, List.set_cons_succ]
        refine wpAnyH_take (i := 10) (v := ?v11) rfl (by kernel_rfl) (by kernel_rfl) (by kernel_rfl) (fun _ _ _ h => h) (Or.inl ⟨by kernel_rfl, ?hy11⟩) (by assumption) ?_
        case hy11 => (intro w9 hS9; (try dsimp only at hS9); go_simp; (try with_reducible rfl))
        try simp only [Act.put, List.getElem_toArray, List.getElem_cons_succ, List.getElem_cons_zero, List.setIfInBounds_toArray, List.set_cons_zero, List.set_cons_succ]
        refine wpAnyH_ready (rs := [12]) (by kernel_rfl) (by simp) ?_
        refine AllReadyH.cons rfl (fun K9 hK9 => ?_) AllReadyH.nil
        rw [if_pos (by rfl)]
        go_wp2_with (go_at_call 68; refine (l04ApplyAt_any b1 (o1 + i * 5) l[i] cur _ (HAt.out.below hHeld2.2.2) Hok.out Hcur.out).mono ?_; rintro e w3 ⟨rfl, hbk⟩; have hbk2 := hbk)
        refine hK9.out _ _ (keepC hbk hHeld2 fun h => keepC hbk h fun h => keepF hbk h) (fun hHeld3 => ?_)
        clear hK9 K9
        try simp only [Act.put, List.getElem_toArray, List.getElem_cons_succ, List.getElem_cons_zero, List.setIfInBounds_toArray, List.set_cons_zero, List.set_cons_succ]
        refine wpAnyH_take (i := 13) (v := ?v12) rfl (by kernel_rfl) (by kernel_rfl) (by kernel_rfl) (fun _ _ _ h => h) (Or.inl ⟨by kernel_rfl, ?hy12⟩) (by assumption) ?_
        case hy12 => (intro w9 hS9; (try dsimp only at hS9); go_simp; (try with_reducible rfl))
        try simp only [Act.put, List.getElem_toArray, List.getElem_cons_succ, List.getElem_cons_zero, List.setIfInBounds_toArray, List.set_cons_zero, List.set_cons_succ]
        refine wpAnyH_take (i := 14) (v := ?v13) rfl (by kernel_rfl) (by kernel_rfl) (by kernel_rfl) (fun _ _ _ h => h) (Or.inl ⟨by kernel_rfl, ?hy13⟩) (by assumption) ?_
        case hy13 => (intro w9 hS9; (try dsimp only at hS9); go_simp; (try with_reducible rfl))
        try simp only [Act.put, List.getElem_toArray, List.getElem_cons_succ, List.getElem_cons_zero, List.setIfInBounds_toArray, List.set_cons_zero, List.set_cons_succ]
        refine wpAnyH_take (i := 15) (v := ?v14) rfl (by kernel_rfl) (by kernel_rfl) (by kernel_rfl) (fun _ _ _ h => h) (Or.inl ⟨by kernel_rfl, ?hy14⟩) (by assumption) ?_
        case hy14 => (intro w9 hS9; (try dsimp only at hS9); go_simp; (try with_reducible rfl))
        try simp only [Act.put, List.getElem_toArray, List.getElem_cons_succ, List.getElem_cons_zero, List.setIfInBounds_toArray, List.set_cons_zero, List.set_cons_succ]
        refine wpAnyH_take (i := 16) (v := ?v15) rfl (by kernel_rfl) (by kernel_rfl) (by kernel_rfl) (fun _ _ _ h => h) (Or.inl ⟨by kernel_rfl, ?hy15⟩) (by assumption) ?_
        case hy15 => (intro w9 hS9; (try dsimp only at hS9); go_simp; (try with_reducible rfl))
        try simp only [Act.put, List.getElem_toArray, List.getElem_cons_succ, List.getElem_cons_zero, List.setIfInBounds_toArray, List.set_cons_zero, List.set_cons_succ]
        refine wpAnyH_take (i := 17) (v := ?v16) rfl (by kernel_rfl) (by kernel_rfl) (by kernel_rfl) (fun _ _ _ h => h) (Or.inl ⟨by kernel_rfl, ?hy16⟩) (by assumption) ?_
        case hy16 => (intro w9 hS9; (try dsimp only at hS9); go_simp; (try with_reducible rfl))
        try simp only [Act.put, List.getElem_toArray, List.getElem_cons_succ, List.getElem_cons_zero, List.setIfInBounds_toArray, List.set_cons_zero, List.set_cons_succ]
        refine wpAnyH_done (by kernel_rfl) ?_ _
        have HB3 := Lib.hid hHeld3.2.2
        clear hHeld hHeld2 hHeld3 hbk hbk2
        go_wp2_with fail
        go_meet
        exact ⟨rfl, rfl, HB3.out⟩
      case rest =>
        obtain ⟨rfl, rfl, hb3⟩ := hcut
        have HB3 := Lib.hid hb3
        clear hb3
        by_cases hz : (apV l[i] cur).2 = 0
        · have Hnx := Lib.hid (show WordAt l s names (j + 1) (apV l[i] cur).1 by have := Hat.out.next hlt (by rw [Haf.out]; exact hz); rwa [Haf.out] at this)
          have hzq : ((apV l[i] cur).2 != 0) = false := by rw [hz]; rfl
          clear hz hcode
          go_wp2
          go_roundw
          case rel => exact ⟨j + 1, _, by omega, by go_num, rfl, Hnx, HB3.out⟩
          case measure => simp [intOf]; omega
        · have Hfl := Lib.hid (show wordV l s names = (⟨#[]⟩, (apV l[i] cur).2) by have := Hat.out.fail hlt (by rw [Haf.out]; exact hz); rwa [Haf.out] at this)
          have hzq : ((apV l[i] cur).2 != 0) = true := by rw [bne_iff_ne]; exact hz
          clear hz hcode
          go_wp2
          go_ret2
          exact ⟨by unfold WordPost; rw [Hfl.out]; rfl, HB3.out⟩
    · have Hd := Lib.hid (Hat.out.done (by omega))
      clear hcs1 hcs2
      go_wp2
      go_ret2
      exact ⟨by unfold WordPost; rw [Hd.out]; rfl, hb⟩
end Go.Proofs.YtndfhmphlomeiaaGreatDoor
/- WordOf of both sides. Conditions: the readings; MaxLen's cell. -/
namespace Go.Proofs.YtndfhmphlomeiaaGreatDoor
open Go.RowKit
attribute [local irreducible] Calls
/-- How far a derivation has been looked at. -/
def DerAt (P : Prop) (us l : List ByteArray) (k : Nat) (b : Bool) : Prop := b = true ↔ (P ∧ DerTo us l k)
theorem DerAt.stop {P : Prop} {us l : List ByteArray} {k : Nat} (h : DerAt P us l k false) : DerAt P us l (k + 1) false := by
  unfold DerAt at h ⊢
  constructor
  · intro h; cases h
  · rintro ⟨h1, h2⟩
    exact h.2 ⟨h1, fun i hi hl => h2 i (by omega) hl⟩
theorem DerAt.step {P : Prop} {us l : List ByteArray} {k : Nat} (h : DerAt P us l k true) (hk : k < l.length) (b : Bool) (hb : b = true ↔ (inB us l[k] = true ∧ inB (l.take k) l[k] = false)) : DerAt P us l (k + 1) b := by
  have h0 := h.1 rfl
  unfold DerAt
  rw [hb]
  constructor
  · rintro ⟨h1, h2⟩
    exact ⟨h0.1, h0.2.succ hk h1 h2⟩
  · rintro ⟨-, h2⟩
    exact h2 k (by omega) hk
/-- What l04Uses leaves. -/
def UsesAt (l : List StemD) (n : ByteArray) (us : List ByteArray) (f : Bool) : Prop := (f = true → ∃ j, ∃ hj : j < l.length, stmI l n = (j : Int) ∧ us = l[j].uses) ∧ (f = false → stmI l n = -1)
theorem UsesPost.split {l : List StemD} {n : ByteArray} {w : World} {e : Ending} (h : UsesPost l n w e) : ∃ (u : Value) (us : List ByteArray) (f : Bool), e = .returned (.tuple #[u, .bool f]) ∧ Strs w u us ∧ UsesAt l n us f := by
  rcases h with ⟨h1, h2⟩ | ⟨j, hj, u, h1, h2, h3⟩
  · exact ⟨_, [], false, h2, ⟨⟨rfl, none, 0, rfl, Nat.le_refl _, by unfold maxLen; omega, fun j u hj => by simp at hj⟩, by simp⟩, (fun h => by cases h), fun _ => h1⟩
  · exact ⟨u, _, true, h3, h2, (fun _ => ⟨j, hj, h1, rfl⟩), fun h => by cases h⟩
theorem derB_at {x : GraD} {d : DerD} {us : List ByteArray} {f b : Bool} (hu : UsesAt x.stems d.stem us f) (h : DerAt (f = true ∧ d.affixes.length ≤ 2) us d.affixes d.affixes.length b) : derB x d = b := by
  cases b
  · refine derB_no fun ⟨j, hj, h1, h2, h3⟩ => ?_
    cases f
    · have := hu.2 rfl; omega
    · obtain ⟨i, hi, e1, e2⟩ := hu.1 rfl
      have : i = j := by omega
      subst this
      have := h.2 ⟨⟨rfl, h2⟩, by rw [e2]; exact h3⟩
      cases this
  · obtain ⟨⟨h1, h2⟩, h3⟩ := h.1 rfl
    obtain ⟨j, hj, e1, e2⟩ := hu.1 h1
    exact derB_yes ⟨j, hj, e1, h2, by rw [← e2]; exact h3⟩
theorem woV_bad {g : GraD} {d : DerD} (h : graB g = false) : woV g d = (⟨#[]⟩, 1) := by simp [woV, h]
theorem woV_not {g : GraD} {d : DerD} (h : graB g = true) (h2 : derB g d = false) : woV g d = (⟨#[]⟩, 6) := by simp [woV, h, h2]
theorem woV_yes {g : GraD} {d : DerD} (h : graB g = true) (h2 : derB g d = true) : woV g d = wordV g.affixes d.stem d.affixes := by simp [woV, h, h2]
set_option maxHeartbeats 8000000 in
set_option maxRecDepth 100000 in
theorem specWordOf_any (v : Value) (x : GraD) (v2 : Value) (d : DerD) (w : World) (hv : GraR w v x) (hd : DerR w v2 d) (_hM : MaxL w) :
    Calls Tryz.prog 13 #[v, v2] w fun e w' => e = .returned (.tuple #[.string (woV x d).1, .int .i64 (woV x d).2]) ∧ Below w.heap.size w w' := by
  obtain ⟨s1, s2, rfl, ha, hs⟩ := hv
  obtain ⟨u, rfl, hdw, hdu⟩ := hd
  have hb0 : Below w.heap.size w ((w.alloc (.cells #[s1, s2] 27)).alloc (.cells #[.string d.stem, u] 37)) := ((Below.refl _ _).alloc (Nat.le_refl _) _).alloc (by simp) _
  have hG : GraBox ((w.alloc (.cells #[s1, s2] 27)).alloc (.cells #[.string d.stem, u] 37)) w.heap.size s1 s2 x :=
    ⟨(src_cell (heap_alloc2_old w _ _) rfl).1, (src_cell (heap_alloc2_old w _ _) rfl).1, ha.below hb0, hs.below hb0⟩
  have hD0 := (src_cell (i := 0) (v := .string d.stem) (heap_alloc2_new w (.cells #[s1, s2] 27) (.cells #[.string d.stem, u] 37)) rfl).1
  have hD1 := (src_cell (i := 1) (v := u) (heap_alloc2_new w (.cells #[s1, s2] 27) (.cells #[.string d.stem, u] 37)) rfl).1
  have HD := Lib.hid hdu
  have Hs := Lib.hid hs
  have Ha := Lib.hid ha
  obtain ⟨a1, k1, rfl, -⟩ := ha.shape
  obtain ⟨a2, k2, rfl, -⟩ := hs.shape
  obtain ⟨da, dc, rfl, hdl, hdc, hds⟩ := hdu.shape
  unfold maxLen at hdc
  have HG := Lib.hid hG
  clear ha hs hdu hG
  go_enter Tryz.func13, Tryz.ntmps13
  go_wp2_with fail
  refine (l04Ok_any _ _ _ x _ HG.out).mono ?_
  rintro e w1 ⟨rfl, q, hw1⟩
  have hbq : Below ((w.alloc (.cells #[.slice a1 x.affixes.length k1, .slice a2 x.stems.length k2] 27)).alloc (.cells #[.string d.stem, .slice da d.affixes.length dc] 37)).heap.size ((w.alloc (.cells #[.slice a1 x.affixes.length k1, .slice a2 x.stems.length k2] 27)).alloc (.cells #[.string d.stem, .slice da d.affixes.length dc] 37)) w1 := by rw [hw1]; exact below_drewN (Below.refl _ _) q
  have HB1 := Lib.hid (hb0.trans (hbq.mono hb0.size))
  have hD0 := cell_below hbq hD0
  have hD1 := cell_below hbq hD1
  have hg1 := cell_below hbq HG.out.c1
  have hg0 := cell_below hbq HG.out.c0
  clear hw1 hbq hb0
  cases hok : graB x
  · have Hok := Lib.hid hok
    clear hds
    go_wp2
    go_ret2
    exact ⟨by rw [woV_bad Hok.out]; rfl, HB1.out⟩
  · have Hok := Lib.hid hok
    clear hok
    go_wp2_with fail
    refine (l04Uses_any w.heap.size _ x.stems d.stem _ hg1 (Hs.out.below HB1.out)).mono ?_
    rintro e w1' ⟨hup, rfl⟩
    obtain ⟨u0, us, f, rfl, hu0, hua⟩ := hup.split
    have HU1 := Lib.hid hu0
    have Hua := Lib.hid hua
    obtain ⟨ua, uc, rfl, -⟩ := hu0.shape
    have hlenc : ∃ f2 : Bool, f2 = (f && decide ((d.affixes.length : Int) ≤ 2)) := ⟨_, rfl⟩
    obtain ⟨f2, hf2⟩ := hlenc
    have Hst : Hid (DerAt (f = true ∧ d.affixes.length ≤ 2) us d.affixes 0 f2) := Lib.hid (by
      unfold DerAt
      rw [hf2, Bool.and_eq_true, decide_eq_true_iff]
      exact ⟨fun ⟨h1, h2⟩ => ⟨⟨h1, by omega⟩, DerTo.zero⟩, fun ⟨⟨h1, h2⟩, _⟩ => ⟨h1, by omega⟩⟩)
    clear hup hu0 hua
    go_upto_region 4 with fail
    go_cut [7] (fun s7 wx => s7 = .bool f2 ∧ wx = w1)
    case first =>
      subst hf2
      cases f
      · go_wp2_with fail
        go_meet
        exact ⟨rfl, rfl⟩
      · go_wp2_with fail
        go_meet
        exact ⟨rfl, rfl⟩
    case rest =>
      obtain ⟨rfl, rfl⟩ := hcut
      clear hf2
      go_wp2
      go_loopw [7, 8] (fun bv i wr => ∃ (k : Nat) (b : Bool), k ≤ d.affixes.length ∧ i = .int .i64 (k : Int) ∧ bv = .bool b ∧ Hid (DerAt (f = true ∧ d.affixes.length ≤ 2) us d.affixes k b) ∧ Below wc.heap.size wc wr) (fun _ i _ => d.affixes.length - (intOf i).toNat)
      case atStart => exact ⟨0, f2, by omega, rfl, rfl, Hst, Below.refl _ _⟩
      case round =>
        obtain ⟨k, b, hk, rfl, rfl, Hda, hbr⟩ := hrel
        have HB := Lib.hid hbr
        have HU := Lib.hid (HU1.out.below hbr)
        have c1 := cell_below hbr hD1
        have c0 := cell_below hbr hD0
        have HBw := Lib.hid (HB1.out.trans (hbr.mono HB1.out.size))
        by_cases hlt : k < d.affixes.length
        · obtain ⟨b2, o2, rfl, h2, -⟩ := hds k hlt
          have c2 := cell_below HBw.out h2
          have hkI : (k : Int) < (d.affixes.length : Int) := by omega
          have hk0 : (0 : Int) ≤ (k : Int) := by omega
          have hkc : (k : Int) ≤ (dc : Int) := by omega
          clear hds h2 hbr
          cases b
          · have Hn := Lib.hid Hda.out.stop
            go_wp2_with fail
            refine wp_region_held_drew (S := (fun w' => w'.cell? ⟨w.heap.size + 1, 1, none⟩ = some (.slice (some ⟨b2, o2, none⟩) d.affixes.length dc) ∧ w'.cell? ⟨b2, o2 + k, none⟩ = some (.string d.affixes[k]) ∧ Below wc.heap.size wc w')) (by kernel_rfl) ?_ (fun hHeld => ?_)
            · exact ⟨c1, c2, HB.out.drew⟩
            refine wpAnyH_take (i := 0) (v := ?v1) rfl (by kernel_rfl) (by kernel_rfl) (by kernel_rfl) (fun _ _ _ h => h) (Or.inl ⟨by kernel_rfl, ?hy1⟩) (by assumption) ?_
            case hy1 => (intro w9 hS9; (try dsimp only at hS9); go_simp; (try with_reducible rfl))
            try simp only [Act.put, List.getElem_toArray, List.getElem_cons_succ, List.getElem_cons_zero, List.setIfInBounds_toArray, List.set_cons_zero, List.set_cons_succ]
            refine wpAnyH_take (i := 1) (v := ?v2) rfl (by kernel_rfl) (by kernel_rfl) (by kernel_rfl) (fun _ _ _ h => h) (Or.inl ⟨by kernel_rfl, ?hy2⟩) (by assumption) ?_
            case hy2 => (intro w9 hS9; (try dsimp only at hS9); go_simp; (try with_reducible rfl))
            try simp only [Act.put, List.getElem_toArray, List.getElem_cons_succ, List.getElem_cons_zero, List.setIfInBounds_toArray, List.set_cons_zero, List.set_cons_succ]
            refine wpAnyH_take (i := 2) (v := undef) rfl (by kernel_rfl) (by kernel_rfl) (by kernel_rfl) (fun _ _ _ h => h) (Or.inr ⟨by kernel_rfl, rfl⟩) (by assumption) ?_
            try simp only [Act.put, List.getElem_toArray, List.getElem_cons_succ, List.getElem_cons_zero, List.setIfInBounds_toArray, List.set_cons_zero, List.set_cons_succ]
            refine wpAnyH_take (i := 3) (v := undef) rfl (by kernel_rfl) (by kernel_rfl) (by kernel_rfl) (fun _ _ _ h => h) (Or.inr ⟨by kernel_rfl, rfl⟩) (by assumption) ?_
            try simp only [Act.put, List.getElem_toArray, List.getElem_cons_succ, List.getElem_cons_zero, List.setIfInBounds_toArray, List.set_cons_zero, List.set_cons_succ]
            refine wpAnyH_take (i := 4) (v := undef) rfl (by kernel_rfl) (by kernel_rfl) (by kernel_rfl) (fun _ _ _ h => h) (Or.inr ⟨by kernel_rfl, rfl⟩) (by assumption) ?_
            try simp only [Act.put, List.getElem_toArray, List.getElem_cons_succ, List.getElem_cons_zero, List.setIfInBounds_toArray, List.set_cons_zero, List.set_cons_succ]
            refine wpAnyH_take (i := 5) (v := undef) rfl (by kernel_rfl) (by kernel_rfl) (by kernel_rfl) (fun _ _ _ h => h) (Or.inr ⟨by kernel_rfl, rfl⟩) (by assumption) ?_
            try simp only [Act.put, List.getElem_toArray, List.getElem_cons_succ, List.getElem_cons_zero, List.setIfInBounds_toArray, List.set_cons_zero, List.set_cons_succ]
            refine wpAnyH_take (i := 6) (v := undef) rfl (by kernel_rfl) (by kernel_rfl) (by kernel_rfl) (fun _ _ _ h => h) (Or.inr ⟨by kernel_rfl, rfl⟩) (by assumption) ?_
            try simp only [Act.put, List.getElem_toArray, List.getElem_cons_succ, List.getElem_cons_zero, List.setIfInBounds_toArray, List.set_cons_zero, List.set_cons_succ]
            refine wpAnyH_take (i := 7) (v := undef) rfl (by kernel_rfl) (by kernel_rfl) (by kernel_rfl) (fun _ _ _ h => h) (Or.inr ⟨by kernel_rfl, rfl⟩) (by assumption) ?_
            try simp only [Act.put, List.getElem_toArray, List.getElem_cons_succ, List.getElem_cons_zero, List.setIfInBounds_toArray, List.set_cons_zero, List.set_cons_succ]
            refine wpAnyH_take (i := 8) (v := undef) rfl (by kernel_rfl) (by kernel_rfl) (by kernel_rfl) (fun _ _ _ h => h) (Or.inr ⟨by kernel_rfl, rfl⟩) (by assumption) ?_
            try simp only [Act.put, List.getElem_toArray, List.getElem_cons_succ, List.getElem_cons_zero, List.setIfInBounds_toArray, List.set_cons_zero, List.set_cons_succ]
            refine wpAnyH_take (i := 9) (v := ?v3) rfl (by kernel_rfl) (by kernel_rfl) (by kernel_rfl) (fun _ _ _ h => h) (Or.inl ⟨by kernel_rfl, ?hy3⟩) (by assumption) ?_
            case hy3 => (intro w9 hS9; (try dsimp only at hS9); go_simp; (try with_reducible rfl))
            try simp only [Act.put, List.getElem_toArray, List.getElem_cons_succ, List.getElem_cons_zero, List.setIfInBounds_toArray, List.set_cons_zero, List.set_cons_succ]
            refine wpAnyH_take (i := 10) (v := ?v4) rfl (by kernel_rfl) (by kernel_rfl) (by kernel_rfl) (fun _ _ _ h => h) (Or.inl ⟨by kernel_rfl, ?hy4⟩) (by assumption) ?_
            case hy4 => (intro w9 hS9; (try dsimp only at hS9); go_simp; (try with_reducible rfl))
            try simp only [Act.put, List.getElem_toArray, List.getElem_cons_succ, List.getElem_cons_zero, List.setIfInBounds_toArray, List.set_cons_zero, List.set_cons_succ]
            refine wpAnyH_take (i := 11) (v := undef) rfl (by kernel_rfl) (by kernel_rfl) (by kernel_rfl) (fun _ _ _ h => h) (Or.inr ⟨by kernel_rfl, rfl⟩) (by assumption) ?_
            try simp only [Act.put, List.getElem_toArray, List.getElem_cons_succ, List.getElem_cons_zero, List.setIfInBounds_toArray, List.set_cons_zero, List.set_cons_succ]
            refine wpAnyH_take (i := 12) (v := undef) rfl (by kernel_rfl) (by kernel_rfl) (by kernel_rfl) (fun _ _ _ h => h) (Or.inr ⟨by kernel_rfl, rfl⟩) (by assumption) ?_
            try simp only [Act.put, List.getElem_toArray, List.getElem_cons_succ, List.getElem_cons_zero, List.setIfInBounds_toArray, List.set_cons_zero, List.set_cons_succ]
            refine wpAnyH_take (i := 13) (v := undef) rfl (by kernel_rfl) (by kernel_rfl) (by kernel_rfl) (fun _ _ _ h => h) (Or.inr ⟨by kernel_rfl, rfl⟩) (by assumption) ?_
            try simp only [Act.put, List.getElem_toArray, List.getElem_cons_succ, List.getElem_cons_zero, List.setIfInBounds_toArray, List.set_cons_zero, List.set_cons_succ]
            refine wpAnyH_take (i := 14) (v := undef) rfl (by kernel_rfl) (by kernel_rfl) (by kernel_rfl) (fun _ _ _ h => h) (Or.inr ⟨by kernel_rfl, rfl⟩) (by assumption) ?_
            try simp only [Act.put, List.getElem_toArray, List.getElem_cons_succ, List.getElem_cons_zero, List.setIfInBounds_toArray, List.set_cons_zero, List.set_cons_succ]
            refine wpAnyH_take (i := 15) (v := undef) rfl (by kernel_rfl) (by kernel_rfl) (by kernel_rfl) (fun _ _ _ h => h) (Or.inr ⟨by kernel_rfl, rfl⟩) (by assumption) ?_
            try simp only [Act.put, List.getElem_toArray, List.getElem_cons_succ, List.getElem_cons_zero, List.setIfInBounds_toArray, List.set_cons_zero, List.set_cons_succ]
            refine wpAnyH_take (i := 16) (v := undef) rfl (by kernel_rfl) (by kernel_rfl) (by kernel_rfl) (fun _ _ _ h => h) (Or.inr ⟨by kernel_rfl, rfl⟩) (by assumption) ?_
            try simp only [Act.put, List.getElem_toArray, List.getElem_cons_succ, List.getElem_cons_zero, List.setIfInBounds_toArray, List.set_cons_zero, List.set_cons_succ]
            refine wpAnyH_take (i := 17) (v := undef) rfl (by kernel_rfl) (by kernel_rfl) (by kernel_rfl) (fun _ _ _ h => h) (Or.inr ⟨by kernel_rfl, rfl⟩) (by assumption) ?_
            try simp only [Act.put, List.getElem_toArray, List.getElem_cons_succ, List.getElem_cons_zero, List.setIfInBounds_toArray, List.set_cons_zero, List.set_cons_succ]
            refine wpAnyH_take (i := 18) (v := undef) rfl (by kernel_rfl) (by kernel_rfl) (by kernel_rfl) (fun _ _ _ h => h) (Or.inr ⟨by kernel_rfl, rfl⟩) (by assumption) ?_
            try simp only [Act.put, List.getElem_toArray, List.getElem_cons_succ, List.getElem_cons_zero, List.setIfInBounds_toArray, List.set_cons_zero, List.set_cons_succ]
            refine wpAnyH_take (i := 19) (v := undef) rfl (by kernel_rfl) (by kernel_rfl) (by kernel_rfl) (fun _ _ _ h => h) (Or.inr ⟨by kernel_rfl, rfl⟩) (by assumption) ?_
            try simp only [Act.put, List.getElem_toArray, List.getElem_cons_succ, List.getElem_cons_zero, List.setIfInBounds_toArray, List.set_cons_zero, List.set_cons_succ]
            refine wpAnyH_take (i := 20) (v := undef) rfl (by kernel_rfl) (by kernel_rfl) (by kernel_rfl) (fun _ _ _ h => h) (Or.inr ⟨by kernel_rfl, rfl⟩) (by assumption) ?_
            try simp only [Act.put, List.getElem_toArray, List.getElem_cons_succ, List.getElem_cons_zero, List.setIfInBounds_toArray, List.set_cons_zero, List.set_cons_succ]
            refine wpAnyH_take (i := 21) (v := undef) rfl (by kernel_rfl) (by kernel_rfl) (by kernel_rfl) (fun _ _ _ h => h) (Or.inr ⟨by kernel_rfl, rfl⟩) (by assumption) ?_
            try simp only [Act.put, List.getElem_toArray, List.getElem_cons_succ, List.getElem_cons_zero, List.setIfInBounds_toArray, List.set_cons_zero, List.set_cons_succ]
            refine wpAnyH_take (i := 22) (v := ?v5) rfl (by kernel_rfl) (by kernel_rfl) (by kernel_rfl) (fun _ _ _ h => h) (Or.inl ⟨by kernel_rfl, ?hy5⟩) (by assumption) ?_
            case hy5 => (intro w9 hS9; (try dsimp only at hS9); go_simp; (try with_reducible rfl))
            try simp only [Act.put, List.getElem_toArray, List.getElem_cons_succ, List.getElem_cons_zero, List.setIfInBounds_toArray, List.set_cons_zero, List.set_cons_succ]
            refine wpAnyH_take (i := 23) (v := ?v6) rfl (by kernel_rfl) (by kernel_rfl) (by kernel_rfl) (fun _ _ _ h => h) (Or.inl ⟨by kernel_rfl, ?hy6⟩) (by assumption) ?_
            case hy6 => (intro w9 hS9; (try dsimp only at hS9); go_simp; (try with_reducible rfl))
            try simp only [Act.put, List.getElem_toArray, List.getElem_cons_succ, List.getElem_cons_zero, List.setIfInBounds_toArray, List.set_cons_zero, List.set_cons_succ]
            refine wpAnyH_done (by kernel_rfl) ?_ _
            have HB3 := Lib.hid hHeld.2.2
            clear hHeld HB HU c0 c1 c2 HBw
            go_wp2
            go_roundw
            case rel => exact ⟨k + 1, false, by omega, by go_num, rfl, Hn, HB3.out⟩
            case measure => simp [intOf]; omega
          · cases hi1 : inB us d.affixes[k]
            · have Hn := Lib.hid (Hda.out.step hlt false (by rw [hi1]; simp))
              go_wp2_with fail
              refine wp_region_held_drew (S := (fun w' => w'.cell? ⟨w.heap.size + 1, 1, none⟩ = some (.slice (some ⟨b2, o2, none⟩) d.affixes.length dc) ∧ w'.cell? ⟨b2, o2 + k, none⟩ = some (.string d.affixes[k]) ∧ Below wc.heap.size wc w')) (by kernel_rfl) ?_ (fun hHeld => ?_)
              · exact ⟨c1, c2, HB.out.drew⟩
              refine wpAnyH_take (i := 0) (v := ?v7) rfl (by kernel_rfl) (by kernel_rfl) (by kernel_rfl) (fun _ _ _ h => h) (Or.inl ⟨by kernel_rfl, ?hy7⟩) (by assumption) ?_
              case hy7 => (intro w9 hS9; (try dsimp only at hS9); go_simp; (try with_reducible rfl))
              try simp only [Act.put, List.getElem_toArray, List.getElem_cons_succ, List.getElem_cons_zero, List.setIfInBounds_toArray, List.set_cons_zero, List.set_cons_succ]
              refine wpAnyH_take (i := 1) (v := ?v8) rfl (by kernel_rfl) (by kernel_rfl) (by kernel_rfl) (fun _ _ _ h => h) (Or.inl ⟨by kernel_rfl, ?hy8⟩) (by assumption) ?_
              case hy8 => (intro w9 hS9; (try dsimp only at hS9); go_simp; (try with_reducible rfl))
              try simp only [Act.put, List.getElem_toArray, List.getElem_cons_succ, List.getElem_cons_zero, List.setIfInBounds_toArray, List.set_cons_zero, List.set_cons_succ]
              refine wpAnyH_take (i := 2) (v := ?v9) rfl (by kernel_rfl) (by kernel_rfl) (by kernel_rfl) (fun _ _ _ h => h) (Or.inl ⟨by kernel_rfl, ?hy9⟩) (by assumption) ?_
              case hy9 => (intro w9 hS9; (try dsimp only at hS9); go_simp; (try with_reducible rfl))
              try simp only [Act.put, List.getElem_toArray, List.getElem_cons_succ, List.getElem_cons_zero, List.setIfInBounds_toArray, List.set_cons_zero, List.set_cons_succ]
              refine wpAnyH_take (i := 3) (v := ?v10) rfl (by kernel_rfl) (by kernel_rfl) (by kernel_rfl) (fun _ _ _ h => h) (Or.inl ⟨by kernel_rfl, ?hy10⟩) (by assumption) ?_
              case hy10 => (intro w9 hS9; (try dsimp only at hS9); go_simp; (try with_reducible rfl))
              try simp only [Act.put, List.getElem_toArray, List.getElem_cons_succ, List.getElem_cons_zero, List.setIfInBounds_toArray, List.set_cons_zero, List.set_cons_succ]
              refine wpAnyH_take (i := 4) (v := ?v11) rfl (by kernel_rfl) (by kernel_rfl) (by kernel_rfl) (fun _ _ _ h => h) (Or.inl ⟨by kernel_rfl, ?hy11⟩) (by assumption) ?_
              case hy11 => (intro w9 hS9; (try dsimp only at hS9); go_simp; (try with_reducible rfl))
              try simp only [Act.put, List.getElem_toArray, List.getElem_cons_succ, List.getElem_cons_zero, List.setIfInBounds_toArray, List.set_cons_zero, List.set_cons_succ]
              refine wpAnyH_take (i := 5) (v := ?v12) rfl (by kernel_rfl) (by kernel_rfl) (by kernel_rfl) (fun _ _ _ h => h) (Or.inl ⟨by kernel_rfl, ?hy12⟩) (by assumption) ?_
              case hy12 => (intro w9 hS9; (try dsimp only at hS9); go_simp; (try with_reducible rfl))
              try simp only [Act.put, List.getElem_toArray, List.getElem_cons_succ, List.getElem_cons_zero, List.setIfInBounds_toArray, List.set_cons_zero, List.set_cons_succ]
              refine wpAnyH_take (i := 6) (v := ?v13) rfl (by kernel_rfl) (by kernel_rfl) (by kernel_rfl) (fun _ _ _ h => h) (Or.inl ⟨by kernel_rfl, ?hy13⟩) (by assumption) ?_
              case hy13 => (intro w9 hS9; (try dsimp only at hS9); go_simp; (try with_reducible rfl))
              try simp only [Act.put, List.getElem_toArray, List.getElem_cons_succ, List.getElem_cons_zero, List.setIfInBounds_toArray, List.set_cons_zero, List.set_cons_succ]
              refine wpAnyH_take (i := 7) (v := ?v14) rfl (by kernel_rfl) (by kernel_rfl) (by kernel_rfl) (fun _ _ _ h => h) (Or.inl ⟨by kernel_rfl, ?hy14⟩) (by assumption) ?_
              case hy14 => (intro w9 hS9; (try dsimp only at hS9); go_simp; (try with_reducible rfl))
              try simp only [Act.put, List.getElem_toArray, List.getElem_cons_succ, List.getElem_cons_zero, List.setIfInBounds_toArray, List.set_cons_zero, List.set_cons_succ]
              refine wpAnyH_ready (rs := [8]) (by kernel_rfl) (by simp) ?_
              refine AllReadyH.cons rfl (fun K9 hK9 => ?_) AllReadyH.nil
              rw [if_pos (by rfl)]
              go_wp2_with (go_at_call 40; refine (l04In_any _ us d.affixes[k] _ (HU1.out.below hHeld.2.2)).mono ?_; rintro e w2 ⟨rfl, rfl⟩; rw [hi1])
              refine hK9.out _ _ (hHeld) (fun hHeld2 => ?_)
              clear hK9 K9
              try simp only [Act.put, List.getElem_toArray, List.getElem_cons_succ, List.getElem_cons_zero, List.setIfInBounds_toArray, List.set_cons_zero, List.set_cons_succ]
              refine wpAnyH_take (i := 9) (v := ?v15) rfl (by kernel_rfl) (by kernel_rfl) (by kernel_rfl) (fun _ _ _ h => h) (Or.inl ⟨by kernel_rfl, ?hy15⟩) (by assumption) ?_
              case hy15 => (intro w9 hS9; (try dsimp only at hS9); go_simp; (try with_reducible rfl))
              try simp only [Act.put, List.getElem_toArray, List.getElem_cons_succ, List.getElem_cons_zero, List.setIfInBounds_toArray, List.set_cons_zero, List.set_cons_succ]
              refine wpAnyH_take (i := 10) (v := ?v16) rfl (by kernel_rfl) (by kernel_rfl) (by kernel_rfl) (fun _ _ _ h => h) (Or.inl ⟨by kernel_rfl, ?hy16⟩) (by assumption) ?_
              case hy16 => (intro w9 hS9; (try dsimp only at hS9); go_simp; (try with_reducible rfl))
              try simp only [Act.put, List.getElem_toArray, List.getElem_cons_succ, List.getElem_cons_zero, List.setIfInBounds_toArray, List.set_cons_zero, List.set_cons_succ]
              refine wpAnyH_take (i := 11) (v := undef) rfl (by kernel_rfl) (by kernel_rfl) (by kernel_rfl) (fun _ _ _ h => h) (Or.inr ⟨by kernel_rfl, rfl⟩) (by assumption) ?_
              try simp only [Act.put, List.getElem_toArray, List.getElem_cons_succ, List.getElem_cons_zero, List.setIfInBounds_toArray, List.set_cons_zero, List.set_cons_succ]
              refine wpAnyH_take (i := 12) (v := undef) rfl (by kernel_rfl) (by kernel_rfl) (by kernel_rfl) (fun _ _ _ h => h) (Or.inr ⟨by kernel_rfl, rfl⟩) (by assumption) ?_
              try simp only [Act.put, List.getElem_toArray, List.getElem_cons_succ, List.getElem_cons_zero, List.setIfInBounds_toArray, List.set_cons_zero, List.set_cons_succ]
              refine wpAnyH_take (i := 13) (v := undef) rfl (by kernel_rfl) (by kernel_rfl) (by kernel_rfl) (fun _ _ _ h => h) (Or.inr ⟨by kernel_rfl, rfl⟩) (by assumption) ?_
              try simp only [Act.put, List.getElem_toArray, List.getElem_cons_succ, List.getElem_cons_zero, List.setIfInBounds_toArray, List.set_cons_zero, List.set_cons_succ]
              refine wpAnyH_take (i := 14) (v := undef) rfl (by kernel_rfl) (by kernel_rfl) (by kernel_rfl) (fun _ _ _ h => h) (Or.inr ⟨by kernel_rfl, rfl⟩) (by assumption) ?_
              try simp only [Act.put, List.getElem_toArray, List.getElem_cons_succ, List.getElem_cons_zero, List.setIfInBounds_toArray, List.set_cons_zero, List.set_cons_succ]
              refine wpAnyH_take (i := 15) (v := undef) rfl (by kernel_rfl) (by kernel_rfl) (by kernel_rfl) (fun _ _ _ h => h) (Or.inr ⟨by kernel_rfl, rfl⟩) (by assumption) ?_
              try simp only [Act.put, List.getElem_toArray, List.getElem_cons_succ, List.getElem_cons_zero, List.setIfInBounds_toArray, List.set_cons_zero, List.set_cons_succ]
              refine wpAnyH_take (i := 16) (v := undef) rfl (by kernel_rfl) (by kernel_rfl) (by kernel_rfl) (fun _ _ _ h => h) (Or.inr ⟨by kernel_rfl, rfl⟩) (by assumption) ?_
              try simp only [Act.put, List.getElem_toArray, List.getElem_cons_succ, List.getElem_cons_zero, List.setIfInBounds_toArray, List.set_cons_zero, List.set_cons_succ]
              refine wpAnyH_take (i := 17) (v := undef) rfl (by kernel_rfl) (by kernel_rfl) (by kernel_rfl) (fun _ _ _ h => h) (Or.inr ⟨by kernel_rfl, rfl⟩) (by assumption) ?_
              try simp only [Act.put, List.getElem_toArray, List.getElem_cons_succ, List.getElem_cons_zero, List.setIfInBounds_toArray, List.set_cons_zero, List.set_cons_succ]
              refine wpAnyH_take (i := 18) (v := undef) rfl (by kernel_rfl) (by kernel_rfl) (by kernel_rfl) (fun _ _ _ h => h) (Or.inr ⟨by kernel_rfl, rfl⟩) (by assumption) ?_
              try simp only [Act.put, List.getElem_toArray, List.getElem_cons_succ, List.getElem_cons_zero, List.setIfInBounds_toArray, List.set_cons_zero, List.set_cons_succ]
              refine wpAnyH_take (i := 19) (v := undef) rfl (by kernel_rfl) (by kernel_rfl) (by kernel_rfl) (fun _ _ _ h => h) (Or.inr ⟨by kernel_rfl, rfl⟩) (by assumption) ?_
              try simp only [Act.put, List.getElem_toArray, List.getElem_cons_succ, List.getElem_cons_zero, List.setIfInBounds_toArray, List.set_cons_zero, List.set_cons_succ]
              refine wpAnyH_take (i := 20) (v := undef) rfl (by kernel_rfl) (by kernel_rfl) (by kernel_rfl) (fun _ _ _ h => h) (Or.inr ⟨by kernel_rfl, rfl⟩) (by assumption) ?_
              try simp only [Act.put, List.getElem_toArray, List.getElem_cons_succ, List.getElem_cons_zero, List.setIfInBounds_toArray, List.set_cons_zero, List.set_cons_succ]
              refine wpAnyH_take (i := 21) (v := undef) rfl (by kernel_rfl) (by kernel_rfl) (by kernel_rfl) (fun _ _ _ h => h) (Or.inr ⟨by kernel_rfl, rfl⟩) (by assumption) ?_
              try simp only [Act.put, List.getElem_toArray, List.getElem_cons_succ, List.getElem_cons_zero, List.setIfInBounds_toArray, List.set_cons_zero, List.set_cons_succ]
              refine wpAnyH_take (i := 22) (v := ?v17) rfl (by kernel_rfl) (by kernel_rfl) (by kernel_rfl) (fun _ _ _ h => h) (Or.inl ⟨by kernel_rfl, ?hy17⟩) (by assumption) ?_
              case hy17 => (intro w9 hS9; (try dsimp only at hS9); go_simp; (try with_reducible rfl))
              try simp only [Act.put, List.getElem_toArray, List.getElem_cons_succ, List.getElem_cons_zero, List.setIfInBounds_toArray, List.set_cons_zero, List.set_cons_succ]
              refine wpAnyH_take (i := 23) (v := ?v18) rfl (by kernel_rfl) (by kernel_rfl) (by kernel_rfl) (fun _ _ _ h => h) (Or.inl ⟨by kernel_rfl, ?hy18⟩) (by assumption) ?_
              case hy18 => (intro w9 hS9; (try dsimp only at hS9); go_simp; (try with_reducible rfl))
              try simp only [Act.put, List.getElem_toArray, List.getElem_cons_succ, List.getElem_cons_zero, List.setIfInBounds_toArray, List.set_cons_zero, List.set_cons_succ]
              refine wpAnyH_done (by kernel_rfl) ?_ _
              have HB3 := Lib.hid hHeld2.2.2
              clear hHeld HB HU c0 c1 c2 HBw
              go_wp2
              go_roundw
              case rel => exact ⟨k + 1, false, by omega, by go_num, rfl, Hn, HB3.out⟩
              case measure => simp [intOf]; omega
            · cases hi2 : inB (d.affixes.take k) d.affixes[k]
              · have Hn := Lib.hid (Hda.out.step hlt true (by rw [hi1, hi2]; simp))
                go_wp2_with fail
                refine wp_region_held_drew (S := (fun w' => w'.cell? ⟨w.heap.size + 1, 1, none⟩ = some (.slice (some ⟨b2, o2, none⟩) d.affixes.length dc) ∧ w'.cell? ⟨b2, o2 + k, none⟩ = some (.string d.affixes[k]) ∧ Below wc.heap.size wc w')) (by kernel_rfl) ?_ (fun hHeld => ?_)
                · exact ⟨c1, c2, HB.out.drew⟩
                refine wpAnyH_take (i := 0) (v := ?v19) rfl (by kernel_rfl) (by kernel_rfl) (by kernel_rfl) (fun _ _ _ h => h) (Or.inl ⟨by kernel_rfl, ?hy19⟩) (by assumption) ?_
                case hy19 => (intro w9 hS9; (try dsimp only at hS9); go_simp; (try with_reducible rfl))
                try simp only [Act.put, List.getElem_toArray, List.getElem_cons_succ, List.getElem_cons_zero, List.setIfInBounds_toArray, List.set_cons_zero, List.set_cons_succ]
                refine wpAnyH_take (i := 1) (v := ?v20) rfl (by kernel_rfl) (by kernel_rfl) (by kernel_rfl) (fun _ _ _ h => h) (Or.inl ⟨by kernel_rfl, ?hy20⟩) (by assumption) ?_
                case hy20 => (intro w9 hS9; (try dsimp only at hS9); go_simp; (try with_reducible rfl))
                try simp only [Act.put, List.getElem_toArray, List.getElem_cons_succ, List.getElem_cons_zero, List.setIfInBounds_toArray, List.set_cons_zero, List.set_cons_succ]
                refine wpAnyH_take (i := 2) (v := ?v21) rfl (by kernel_rfl) (by kernel_rfl) (by kernel_rfl) (fun _ _ _ h => h) (Or.inl ⟨by kernel_rfl, ?hy21⟩) (by assumption) ?_
                case hy21 => (intro w9 hS9; (try dsimp only at hS9); go_simp; (try with_reducible rfl))
                try simp only [Act.put, List.getElem_toArray, List.getElem_cons_succ, List.getElem_cons_zero, List.setIfInBounds_toArray, List.set_cons_zero, List.set_cons_succ]
                refine wpAnyH_take (i := 3) (v := ?v22) rfl (by kernel_rfl) (by kernel_rfl) (by kernel_rfl) (fun _ _ _ h => h) (Or.inl ⟨by kernel_rfl, ?hy22⟩) (by assumption) ?_
                case hy22 => (intro w9 hS9; (try dsimp only at hS9); go_simp; (try with_reducible rfl))
                try simp only [Act.put, List.getElem_toArray, List.getElem_cons_succ, List.getElem_cons_zero, List.setIfInBounds_toArray, List.set_cons_zero, List.set_cons_succ]
                refine wpAnyH_take (i := 4) (v := ?v23) rfl (by kernel_rfl) (by kernel_rfl) (by kernel_rfl) (fun _ _ _ h => h) (Or.inl ⟨by kernel_rfl, ?hy23⟩) (by assumption) ?_
                case hy23 => (intro w9 hS9; (try dsimp only at hS9); go_simp; (try with_reducible rfl))
                try simp only [Act.put, List.getElem_toArray, List.getElem_cons_succ, List.getElem_cons_zero, List.setIfInBounds_toArray, List.set_cons_zero, List.set_cons_succ]
                refine wpAnyH_take (i := 5) (v := ?v24) rfl (by kernel_rfl) (by kernel_rfl) (by kernel_rfl) (fun _ _ _ h => h) (Or.inl ⟨by kernel_rfl, ?hy24⟩) (by assumption) ?_
                case hy24 => (intro w9 hS9; (try dsimp only at hS9); go_simp; (try with_reducible rfl))
                try simp only [Act.put, List.getElem_toArray, List.getElem_cons_succ, List.getElem_cons_zero, List.setIfInBounds_toArray, List.set_cons_zero, List.set_cons_succ]
                refine wpAnyH_take (i := 6) (v := ?v25) rfl (by kernel_rfl) (by kernel_rfl) (by kernel_rfl) (fun _ _ _ h => h) (Or.inl ⟨by kernel_rfl, ?hy25⟩) (by assumption) ?_
                case hy25 => (intro w9 hS9; (try dsimp only at hS9); go_simp; (try with_reducible rfl))
                try simp only [Act.put, List.getElem_toArray, List.getElem_cons_succ, List.getElem_cons_zero, List.setIfInBounds_toArray, List.set_cons_zero, List.set_cons_succ]
                refine wpAnyH_take (i := 7) (v := ?v26) rfl (by kernel_rfl) (by kernel_rfl) (by kernel_rfl) (fun _ _ _ h => h) (Or.inl ⟨by kernel_rfl, ?hy26⟩) (by assumption) ?_
                case hy26 => (intro w9 hS9; (try dsimp only at hS9); go_simp; (try with_reducible rfl))
                try simp only [Act.put, List.getElem_toArray, List.getElem_cons_succ, List.getElem_cons_zero, List.setIfInBounds_toArray, List.set_cons_zero, List.set_cons_succ]
                refine wpAnyH_ready (rs := [8]) (by kernel_rfl) (by simp) ?_
                refine AllReadyH.cons rfl (fun K9 hK9 => ?_) AllReadyH.nil
                rw [if_pos (by rfl)]
                go_wp2_with (go_at_call 40; refine (l04In_any _ us d.affixes[k] _ (HU1.out.below hHeld.2.2)).mono ?_; rintro e w2 ⟨rfl, rfl⟩; rw [hi1])
                refine hK9.out _ _ (hHeld) (fun hHeld2 => ?_)
                clear hK9 K9
                try simp only [Act.put, List.getElem_toArray, List.getElem_cons_succ, List.getElem_cons_zero, List.setIfInBounds_toArray, List.set_cons_zero, List.set_cons_succ]
                refine wpAnyH_take (i := 9) (v := ?v27) rfl (by kernel_rfl) (by kernel_rfl) (by kernel_rfl) (fun _ _ _ h => h) (Or.inl ⟨by kernel_rfl, ?hy27⟩) (by assumption) ?_
                case hy27 => (intro w9 hS9; (try dsimp only at hS9); go_simp; (try with_reducible rfl))
                try simp only [Act.put, List.getElem_toArray, List.getElem_cons_succ, List.getElem_cons_zero, List.setIfInBounds_toArray, List.set_cons_zero, List.set_cons_succ]
                refine wpAnyH_take (i := 10) (v := ?v28) rfl (by kernel_rfl) (by kernel_rfl) (by kernel_rfl) (fun _ _ _ h => h) (Or.inl ⟨by kernel_rfl, ?hy28⟩) (by assumption) ?_
                case hy28 => (intro w9 hS9; (try dsimp only at hS9); go_simp; (try with_reducible rfl))
                try simp only [Act.put, List.getElem_toArray, List.getElem_cons_succ, List.getElem_cons_zero, List.setIfInBounds_toArray, List.set_cons_zero, List.set_cons_succ]
                refine wpAnyH_take (i := 11) (v := ?v29) rfl (by kernel_rfl) (by kernel_rfl) (by kernel_rfl) (fun _ _ _ h => h) (Or.inl ⟨by kernel_rfl, ?hy29⟩) (by assumption) ?_
                case hy29 => (intro w9 hS9; (try dsimp only at hS9); go_simp; (try with_reducible rfl))
                try simp only [Act.put, List.getElem_toArray, List.getElem_cons_succ, List.getElem_cons_zero, List.setIfInBounds_toArray, List.set_cons_zero, List.set_cons_succ]
                refine wpAnyH_take (i := 12) (v := ?v30) rfl (by kernel_rfl) (by kernel_rfl) (by kernel_rfl) (fun _ _ _ h => h) (Or.inl ⟨by kernel_rfl, ?hy30⟩) (by assumption) ?_
                case hy30 => (intro w9 hS9; (try dsimp only at hS9); go_simp; (try with_reducible rfl))
                try simp only [Act.put, List.getElem_toArray, List.getElem_cons_succ, List.getElem_cons_zero, List.setIfInBounds_toArray, List.set_cons_zero, List.set_cons_succ]
                refine wpAnyH_take (i := 13) (v := ?v31) rfl (by kernel_rfl) (by kernel_rfl) (by kernel_rfl) (fun _ _ _ h => h) (Or.inl ⟨by kernel_rfl, ?hy31⟩) (by assumption) ?_
                case hy31 => (intro w9 hS9; (try dsimp only at hS9); go_simp; (try with_reducible rfl))
                try simp only [Act.put, List.getElem_toArray, List.getElem_cons_succ, List.getElem_cons_zero, List.setIfInBounds_toArray, List.set_cons_zero, List.set_cons_succ]
                refine wpAnyH_take (i := 14) (v := ?v32) rfl (by kernel_rfl) (by kernel_rfl) (by kernel_rfl) (fun _ _ _ h => h) (Or.inl ⟨by kernel_rfl, ?hy32⟩) (by assumption) ?_
                case hy32 => (intro w9 hS9; (try dsimp only at hS9); go_simp; (try with_reducible rfl))
                try simp only [Act.put, List.getElem_toArray, List.getElem_cons_succ, List.getElem_cons_zero, List.setIfInBounds_toArray, List.set_cons_zero, List.set_cons_succ]
                refine wpAnyH_take (i := 15) (v := ?v33) rfl (by kernel_rfl) (by kernel_rfl) (by kernel_rfl) (fun _ _ _ h => h) (Or.inl ⟨by kernel_rfl, ?hy33⟩) (by assumption) ?_
                case hy33 => (intro w9 hS9; (try dsimp only at hS9); go_simp; (try with_reducible rfl))
                try simp only [Act.put, List.getElem_toArray, List.getElem_cons_succ, List.getElem_cons_zero, List.setIfInBounds_toArray, List.set_cons_zero, List.set_cons_succ]
                refine wpAnyH_take (i := 16) (v := ?v34) rfl (by kernel_rfl) (by kernel_rfl) (by kernel_rfl) (fun _ _ _ h => h) (Or.inl ⟨by kernel_rfl, ?hy34⟩) (by assumption) ?_
                case hy34 => (intro w9 hS9; (try dsimp only at hS9); go_simp; (try with_reducible rfl))
                try simp only [Act.put, List.getElem_toArray, List.getElem_cons_succ, List.getElem_cons_zero, List.setIfInBounds_toArray, List.set_cons_zero, List.set_cons_succ]
                refine wpAnyH_take (i := 17) (v := ?v35) rfl (by kernel_rfl) (by kernel_rfl) (by kernel_rfl) (fun _ _ _ h => h) (Or.inl ⟨by kernel_rfl, ?hy35⟩) (by assumption) ?_
                case hy35 => (intro w9 hS9; (try dsimp only at hS9); go_simp; (try with_reducible rfl))
                try simp only [Act.put, List.getElem_toArray, List.getElem_cons_succ, List.getElem_cons_zero, List.setIfInBounds_toArray, List.set_cons_zero, List.set_cons_succ]
                refine wpAnyH_take (i := 18) (v := ?v36) rfl (by kernel_rfl) (by kernel_rfl) (by kernel_rfl) (fun _ _ _ h => h) (Or.inl ⟨by kernel_rfl, ?hy36⟩) (by assumption) ?_
                case hy36 => (intro w9 hS9; (try dsimp only at hS9); go_simp; (try with_reducible rfl))
                try simp only [Act.put, List.getElem_toArray, List.getElem_cons_succ, List.getElem_cons_zero, List.setIfInBounds_toArray, List.set_cons_zero, List.set_cons_succ]
                refine wpAnyH_take (i := 19) (v := ?v37) rfl (by kernel_rfl) (by kernel_rfl) (by kernel_rfl) (fun _ _ _ h => h) (Or.inl ⟨by kernel_rfl, ?hy37⟩) (by assumption) ?_
                case hy37 => (intro w9 hS9; (try dsimp only at hS9); go_simp; (try with_reducible rfl))
                try simp only [Act.put, List.getElem_toArray, List.getElem_cons_succ, List.getElem_cons_zero, List.setIfInBounds_toArray, List.set_cons_zero, List.set_cons_succ]
                refine wpAnyH_ready (rs := [20]) (by kernel_rfl) (by simp) ?_
                refine AllReadyH.cons rfl (fun K9 hK9 => ?_) AllReadyH.nil
                rw [if_pos (by rfl)]
                go_wp2_with (go_at_call 40; refine (l04In_any _ (d.affixes.take k) d.affixes[k] _ ((HD.out.below (HB1.out.trans (hHeld2.2.2.mono HB1.out.size))).take k (by omega))).mono ?_; rintro e w3 ⟨rfl, rfl⟩; rw [hi2])
                refine hK9.out _ _ (hHeld2) (fun hHeld3 => ?_)
                clear hK9 K9
                try simp only [Act.put, List.getElem_toArray, List.getElem_cons_succ, List.getElem_cons_zero, List.setIfInBounds_toArray, List.set_cons_zero, List.set_cons_succ]
                refine wpAnyH_take (i := 21) (v := ?v38) rfl (by kernel_rfl) (by kernel_rfl) (by kernel_rfl) (fun _ _ _ h => h) (Or.inl ⟨by kernel_rfl, ?hy38⟩) (by assumption) ?_
                case hy38 => (intro w9 hS9; (try dsimp only at hS9); go_simp; (try with_reducible rfl))
                try simp only [Act.put, List.getElem_toArray, List.getElem_cons_succ, List.getElem_cons_zero, List.setIfInBounds_toArray, List.set_cons_zero, List.set_cons_succ]
                refine wpAnyH_take (i := 22) (v := ?v39) rfl (by kernel_rfl) (by kernel_rfl) (by kernel_rfl) (fun _ _ _ h => h) (Or.inl ⟨by kernel_rfl, ?hy39⟩) (by assumption) ?_
                case hy39 => (intro w9 hS9; (try dsimp only at hS9); go_simp; (try with_reducible rfl))
                try simp only [Act.put, List.getElem_toArray, List.getElem_cons_succ, List.getElem_cons_zero, List.setIfInBounds_toArray, List.set_cons_zero, List.set_cons_succ]
                refine wpAnyH_take (i := 23) (v := ?v40) rfl (by kernel_rfl) (by kernel_rfl) (by kernel_rfl) (fun _ _ _ h => h) (Or.inl ⟨by kernel_rfl, ?hy40⟩) (by assumption) ?_
                case hy40 => (intro w9 hS9; (try dsimp only at hS9); go_simp; (try with_reducible rfl))
                try simp only [Act.put, List.getElem_toArray, List.getElem_cons_succ, List.getElem_cons_zero, List.setIfInBounds_toArray, List.set_cons_zero, List.set_cons_succ]
                refine wpAnyH_done (by kernel_rfl) ?_ _
                have HB3 := Lib.hid hHeld3.2.2
                clear hHeld HB HU c0 c1 c2 HBw
                go_wp2
                go_roundw
                case rel => exact ⟨k + 1, true, by omega, by go_num, rfl, Hn, HB3.out⟩
                case measure => simp [intOf]; omega
              · have Hn := Lib.hid (Hda.out.step hlt false (by rw [hi1, hi2]; simp))
                go_wp2_with fail
                refine wp_region_held_drew (S := (fun w' => w'.cell? ⟨w.heap.size + 1, 1, none⟩ = some (.slice (some ⟨b2, o2, none⟩) d.affixes.length dc) ∧ w'.cell? ⟨b2, o2 + k, none⟩ = some (.string d.affixes[k]) ∧ Below wc.heap.size wc w')) (by kernel_rfl) ?_ (fun hHeld => ?_)
                · exact ⟨c1, c2, HB.out.drew⟩
                refine wpAnyH_take (i := 0) (v := ?v41) rfl (by kernel_rfl) (by kernel_rfl) (by kernel_rfl) (fun _ _ _ h => h) (Or.inl ⟨by kernel_rfl, ?hy41⟩) (by assumption) ?_
                case hy41 => (intro w9 hS9; (try dsimp only at hS9); go_simp; (try with_reducible rfl))
                try simp only [Act.put, List.getElem_toArray, List.getElem_cons_succ, List.getElem_cons_zero, List.setIfInBounds_toArray, List.set_cons_zero, List.set_cons_succ]
                refine wpAnyH_take (i := 1) (v := ?v42) rfl (by kernel_rfl) (by kernel_rfl) (by kernel_rfl) (fun _ _ _ h => h) (Or.inl ⟨by kernel_rfl, ?hy42⟩) (by assumption) ?_
                case hy42 => (intro w9 hS9; (try dsimp only at hS9); go_simp; (try with_reducible rfl))
                try simp only [Act.put, List.getElem_toArray, List.getElem_cons_succ, List.getElem_cons_zero, List.setIfInBounds_toArray, List.set_cons_zero, List.set_cons_succ]
                refine wpAnyH_take (i := 2) (v := ?v43) rfl (by kernel_rfl) (by kernel_rfl) (by kernel_rfl) (fun _ _ _ h => h) (Or.inl ⟨by kernel_rfl, ?hy43⟩) (by assumption) ?_
                case hy43 => (intro w9 hS9; (try dsimp only at hS9); go_simp; (try with_reducible rfl))
                try simp only [Act.put, List.getElem_toArray, List.getElem_cons_succ, List.getElem_cons_zero, List.setIfInBounds_toArray, List.set_cons_zero, List.set_cons_succ]
                refine wpAnyH_take (i := 3) (v := ?v44) rfl (by kernel_rfl) (by kernel_rfl) (by kernel_rfl) (fun _ _ _ h => h) (Or.inl ⟨by kernel_rfl, ?hy44⟩) (by assumption) ?_
                case hy44 => (intro w9 hS9; (try dsimp only at hS9); go_simp; (try with_reducible rfl))
                try simp only [Act.put, List.getElem_toArray, List.getElem_cons_succ, List.getElem_cons_zero, List.setIfInBounds_toArray, List.set_cons_zero, List.set_cons_succ]
                refine wpAnyH_take (i := 4) (v := ?v45) rfl (by kernel_rfl) (by kernel_rfl) (by kernel_rfl) (fun _ _ _ h => h) (Or.inl ⟨by kernel_rfl, ?hy45⟩) (by assumption) ?_
                case hy45 => (intro w9 hS9; (try dsimp only at hS9); go_simp; (try with_reducible rfl))
                try simp only [Act.put, List.getElem_toArray, List.getElem_cons_succ, List.getElem_cons_zero, List.setIfInBounds_toArray, List.set_cons_zero, List.set_cons_succ]
                refine wpAnyH_take (i := 5) (v := ?v46) rfl (by kernel_rfl) (by kernel_rfl) (by kernel_rfl) (fun _ _ _ h => h) (Or.inl ⟨by kernel_rfl, ?hy46⟩) (by assumption) ?_
                case hy46 => (intro w9 hS9; (try dsimp only at hS9); go_simp; (try with_reducible rfl))
                try simp only [Act.put, List.getElem_toArray, List.getElem_cons_succ, List.getElem_cons_zero, List.setIfInBounds_toArray, List.set_cons_zero, List.set_cons_succ]
                refine wpAnyH_take (i := 6) (v := ?v47) rfl (by kernel_rfl) (by kernel_rfl) (by kernel_rfl) (fun _ _ _ h => h) (Or.inl ⟨by kernel_rfl, ?hy47⟩) (by assumption) ?_
                case hy47 => (intro w9 hS9; (try dsimp only at hS9); go_simp; (try with_reducible rfl))
                try simp only [Act.put, List.getElem_toArray, List.getElem_cons_succ, List.getElem_cons_zero, List.setIfInBounds_toArray, List.set_cons_zero, List.set_cons_succ]
                refine wpAnyH_take (i := 7) (v := ?v48) rfl (by kernel_rfl) (by kernel_rfl) (by kernel_rfl) (fun _ _ _ h => h) (Or.inl ⟨by kernel_rfl, ?hy48⟩) (by assumption) ?_
                case hy48 => (intro w9 hS9; (try dsimp only at hS9); go_simp; (try with_reducible rfl))
                try simp only [Act.put, List.getElem_toArray, List.getElem_cons_succ, List.getElem_cons_zero, List.setIfInBounds_toArray, List.set_cons_zero, List.set_cons_succ]
                refine wpAnyH_ready (rs := [8]) (by kernel_rfl) (by simp) ?_
                refine AllReadyH.cons rfl (fun K9 hK9 => ?_) AllReadyH.nil
                rw [if_pos (by rfl)]
                go_wp2_with (go_at_call 40; refine (l04In_any _ us d.affixes[k] _ (HU1.out.below hHeld.2.2)).mono ?_; rintro e w2 ⟨rfl, rfl⟩; rw [hi1])
                refine hK9.out _ _ (hHeld) (fun hHeld2 => ?_)
                clear hK9 K9
                try simp only [Act.put, List.getElem_toArray, List.getElem_cons_succ, List.getElem_cons_zero, List.setIfInBounds_toArray, List.set_cons_zero, List.set_cons_succ]
                refine wpAnyH_take (i := 9) (v := ?v49) rfl (by kernel_rfl) (by kernel_rfl) (by kernel_rfl) (fun _ _ _ h => h) (Or.inl ⟨by kernel_rfl, ?hy49⟩) (by assumption) ?_
                case hy49 => (intro w9 hS9; (try dsimp only at hS9); go_simp; (try with_reducible rfl))
                try simp only [Act.put, List.getElem_toArray, List.getElem_cons_succ, List.getElem_cons_zero, List.setIfInBounds_toArray, List.set_cons_zero, List.set_cons_succ]
                refine wpAnyH_take (i := 10) (v := ?v50) rfl (by kernel_rfl) (by kernel_rfl) (by kernel_rfl) (fun _ _ _ h => h) (Or.inl ⟨by kernel_rfl, ?hy50⟩) (by assumption) ?_
                case hy50 => (intro w9 hS9; (try dsimp only at hS9); go_simp; (try with_reducible rfl))
                try simp only [Act.put, List.getElem_toArray, List.getElem_cons_succ, List.getElem_cons_zero, List.setIfInBounds_toArray, List.set_cons_zero, List.set_cons_succ]
                refine wpAnyH_take (i := 11) (v := ?v51) rfl (by kernel_rfl) (by kernel_rfl) (by kernel_rfl) (fun _ _ _ h => h) (Or.inl ⟨by kernel_rfl, ?hy51⟩) (by assumption) ?_
                case hy51 => (intro w9 hS9; (try dsimp only at hS9); go_simp; (try with_reducible rfl))
                try simp only [Act.put, List.getElem_toArray, List.getElem_cons_succ, List.getElem_cons_zero, List.setIfInBounds_toArray, List.set_cons_zero, List.set_cons_succ]
                refine wpAnyH_take (i := 12) (v := ?v52) rfl (by kernel_rfl) (by kernel_rfl) (by kernel_rfl) (fun _ _ _ h => h) (Or.inl ⟨by kernel_rfl, ?hy52⟩) (by assumption) ?_
                case hy52 => (intro w9 hS9; (try dsimp only at hS9); go_simp; (try with_reducible rfl))
                try simp only [Act.put, List.getElem_toArray, List.getElem_cons_succ, List.getElem_cons_zero, List.setIfInBounds_toArray, List.set_cons_zero, List.set_cons_succ]
                refine wpAnyH_take (i := 13) (v := ?v53) rfl (by kernel_rfl) (by kernel_rfl) (by kernel_rfl) (fun _ _ _ h => h) (Or.inl ⟨by kernel_rfl, ?hy53⟩) (by assumption) ?_
                case hy53 => (intro w9 hS9; (try dsimp only at hS9); go_simp; (try with_reducible rfl))
                try simp only [Act.put, List.getElem_toArray, List.getElem_cons_succ, List.getElem_cons_zero, List.setIfInBounds_toArray, List.set_cons_zero, List.set_cons_succ]
                refine wpAnyH_take (i := 14) (v := ?v54) rfl (by kernel_rfl) (by kernel_rfl) (by kernel_rfl) (fun _ _ _ h => h) (Or.inl ⟨by kernel_rfl, ?hy54⟩) (by assumption) ?_
                case hy54 => (intro w9 hS9; (try dsimp only at hS9); go_simp; (try with_reducible rfl))
                try simp only [Act.put, List.getElem_toArray, List.getElem_cons_succ, List.getElem_cons_zero, List.setIfInBounds_toArray, List.set_cons_zero, List.set_cons_succ]
                refine wpAnyH_take (i := 15) (v := ?v55) rfl (by kernel_rfl) (by kernel_rfl) (by kernel_rfl) (fun _ _ _ h => h) (Or.inl ⟨by kernel_rfl, ?hy55⟩) (by assumption) ?_
                case hy55 => (intro w9 hS9; (try dsimp only at hS9); go_simp; (try with_reducible rfl))
                try simp only [Act.put, List.getElem_toArray, List.getElem_cons_succ, List.getElem_cons_zero, List.setIfInBounds_toArray, List.set_cons_zero, List.set_cons_succ]
                refine wpAnyH_take (i := 16) (v := ?v56) rfl (by kernel_rfl) (by kernel_rfl) (by kernel_rfl) (fun _ _ _ h => h) (Or.inl ⟨by kernel_rfl, ?hy56⟩) (by assumption) ?_
                case hy56 => (intro w9 hS9; (try dsimp only at hS9); go_simp; (try with_reducible rfl))
                try simp only [Act.put, List.getElem_toArray, List.getElem_cons_succ, List.getElem_cons_zero, List.setIfInBounds_toArray, List.set_cons_zero, List.set_cons_succ]
                refine wpAnyH_take (i := 17) (v := ?v57) rfl (by kernel_rfl) (by kernel_rfl) (by kernel_rfl) (fun _ _ _ h => h) (Or.inl ⟨by kernel_rfl, ?hy57⟩) (by assumption) ?_
                case hy57 => (intro w9 hS9; (try dsimp only at hS9); go_simp; (try with_reducible rfl))
                try simp only [Act.put, List.getElem_toArray, List.getElem_cons_succ, List.getElem_cons_zero, List.setIfInBounds_toArray, List.set_cons_zero, List.set_cons_succ]
                refine wpAnyH_take (i := 18) (v := ?v58) rfl (by kernel_rfl) (by kernel_rfl) (by kernel_rfl) (fun _ _ _ h => h) (Or.inl ⟨by kernel_rfl, ?hy58⟩) (by assumption) ?_
                case hy58 => (intro w9 hS9; (try dsimp only at hS9); go_simp; (try with_reducible rfl))
                try simp only [Act.put, List.getElem_toArray, List.getElem_cons_succ, List.getElem_cons_zero, List.setIfInBounds_toArray, List.set_cons_zero, List.set_cons_succ]
                refine wpAnyH_take (i := 19) (v := ?v59) rfl (by kernel_rfl) (by kernel_rfl) (by kernel_rfl) (fun _ _ _ h => h) (Or.inl ⟨by kernel_rfl, ?hy59⟩) (by assumption) ?_
                case hy59 => (intro w9 hS9; (try dsimp only at hS9); go_simp; (try with_reducible rfl))
                try simp only [Act.put, List.getElem_toArray, List.getElem_cons_succ, List.getElem_cons_zero, List.setIfInBounds_toArray, List.set_cons_zero, List.set_cons_succ]
                refine wpAnyH_ready (rs := [20]) (by kernel_rfl) (by simp) ?_
                refine AllReadyH.cons rfl (fun K9 hK9 => ?_) AllReadyH.nil
                rw [if_pos (by rfl)]
                go_wp2_with (go_at_call 40; refine (l04In_any _ (d.affixes.take k) d.affixes[k] _ ((HD.out.below (HB1.out.trans (hHeld2.2.2.mono HB1.out.size))).take k (by omega))).mono ?_; rintro e w3 ⟨rfl, rfl⟩; rw [hi2])
                refine hK9.out _ _ (hHeld2) (fun hHeld3 => ?_)
                clear hK9 K9
                try simp only [Act.put, List.getElem_toArray, List.getElem_cons_succ, List.getElem_cons_zero, List.setIfInBounds_toArray, List.set_cons_zero, List.set_cons_succ]
                refine wpAnyH_take (i := 21) (v := ?v60) rfl (by kernel_rfl) (by kernel_rfl) (by kernel_rfl) (fun _ _ _ h => h) (Or.inl ⟨by kernel_rfl, ?hy60⟩) (by assumption) ?_
                case hy60 => (intro w9 hS9; (try dsimp only at hS9); go_simp; (try with_reducible rfl))
                try simp only [Act.put, List.getElem_toArray, List.getElem_cons_succ, List.getElem_cons_zero, List.setIfInBounds_toArray, List.set_cons_zero, List.set_cons_succ]
                refine wpAnyH_take (i := 22) (v := ?v61) rfl (by kernel_rfl) (by kernel_rfl) (by kernel_rfl) (fun _ _ _ h => h) (Or.inl ⟨by kernel_rfl, ?hy61⟩) (by assumption) ?_
                case hy61 => (intro w9 hS9; (try dsimp only at hS9); go_simp; (try with_reducible rfl))
                try simp only [Act.put, List.getElem_toArray, List.getElem_cons_succ, List.getElem_cons_zero, List.setIfInBounds_toArray, List.set_cons_zero, List.set_cons_succ]
                refine wpAnyH_take (i := 23) (v := ?v62) rfl (by kernel_rfl) (by kernel_rfl) (by kernel_rfl) (fun _ _ _ h => h) (Or.inl ⟨by kernel_rfl, ?hy62⟩) (by assumption) ?_
                case hy62 => (intro w9 hS9; (try dsimp only at hS9); go_simp; (try with_reducible rfl))
                try simp only [Act.put, List.getElem_toArray, List.getElem_cons_succ, List.getElem_cons_zero, List.setIfInBounds_toArray, List.set_cons_zero, List.set_cons_succ]
                refine wpAnyH_done (by kernel_rfl) ?_ _
                have HB3 := Lib.hid hHeld3.2.2
                clear hHeld HB HU c0 c1 c2 HBw
                go_wp2
                go_roundw
                case rel => exact ⟨k + 1, false, by omega, by go_num, rfl, Hn, HB3.out⟩
                case measure => simp [intOf]; omega
        · obtain rfl : k = d.affixes.length := by omega
          have Hder := Lib.hid (derB_at Hua.out Hda.out)
          clear hds
          cases b
          · go_wp2
            go_ret2
            exact ⟨by rw [woV_not Hok.out Hder.out]; rfl, HBw.out⟩
          · have Hnm := Lib.hid (DerOk.names (graB_iff.1 Hok.out) (derB_iff.1 Hder.out))
            have hg0' := cell_below hbr hg0
            clear hbr
            go_wp2_with fail
            refine (l04Word_any w.heap.size _ _ x.affixes d.stem d.affixes _ hg0' (Ha.out.below HBw.out) (graB_iff.1 Hok.out).1 Hnm.out.1 (HD.out.below HBw.out) Hnm.out.2).mono ?_
            rintro e w4 ⟨hwp, hb4⟩
            unfold WordPost at hwp
            subst hwp
            have HB4 := Lib.hid (HBw.out.trans (hb4.mono HBw.out.size))
            have Hwo := Lib.hid (woV_yes Hok.out Hder.out)
            clear hb4
            go_wp2
            go_ret2
            exact ⟨by rw [Hwo.out]; rfl, HB4.out⟩
end Go.Proofs.YtndfhmphlomeiaaGreatDoor
/- WordOf of the program. Conditions: the readings; MaxLen's cell. -/
namespace Go.Proofs.YtndfhmphlomeiaaGreatDoor
open Go.RowKit
attribute [local irreducible] Calls
set_option maxHeartbeats 4000000 in
set_option maxRecDepth 100000 in
theorem applied_any (v : Value) (x : GraD) (s : ByteArray) (v2 : Value) (names : List ByteArray) (w : World) (hv : GraR w v x) (hok : AffsOk x.affixes) (hs : isLong s = true) (hn : Strs w v2 names) (hin : ∀ n ∈ names, hasB x.affixes n = true) (hM : MaxL w) :
    Calls Tryz.prog 38 #[v, .string s, v2] w fun e w' => WordPost x.affixes s names e ∧ Below w.heap.size w w' := by
  have HV := Lib.hid hv
  have HM := Lib.hid hM
  have Hok0 := Lib.hid hok
  have Hin := Lib.hid hin
  have Hs := Lib.hid hs
  obtain ⟨s1, s2, rfl, ha, hst⟩ := hv
  obtain ⟨a1, k1, rfl, -⟩ := ha.shape
  obtain ⟨a2, k2, rfl, -⟩ := hst.shape
  obtain ⟨a3, k3, rfl, hl3, hk3, hcs3⟩ := hn.shape
  unfold maxLen at hk3
  clear ha hst hn hok hin hs hM
  go_enter Tryz.func38, Tryz.ntmps38
  go_wp2
  go_loopw [1, 16] (fun cv i wr => ∃ (j : Nat) (cur : ByteArray), j ≤ names.length ∧ i = .int .i64 (j : Int) ∧ cv = .string cur ∧ Hid (WordAt x.affixes s names j cur) ∧ wr.cell? ⟨w.heap.size, 0, none⟩ = some (.slice a1 x.affixes.length k1) ∧ wr.cell? ⟨w.heap.size, 1, none⟩ = some (.slice a2 x.stems.length k2) ∧ Below w.heap.size w wr) (fun _ i _ => names.length - (intOf i).toNat)
  case atStart => exact ⟨0, s, by omega, rfl, rfl, Lib.hid (WordAt.start Hs.out), cell_newi w _ _ 0 _ rfl, cell_newi w _ _ 1 _ rfl, (Below.refl _ _).alloc (Nat.le_refl _) _⟩
  case round =>
    obtain ⟨j, cur, hj, rfl, rfl, Hat, g0, g1, hb⟩ := hrel
    have HB := Lib.hid hb
    have hsz := hb.size
    by_cases hlt : j < names.length
    · obtain ⟨b2, o2, rfl, c2, -⟩ := hcs3 j hlt
      have c2 := (hb.cell (cell_lt c2)).trans c2
      have hh := Hin.out names[j] (List.getElem_mem hlt)
      have Hok := Lib.hid (affOf_ok Hok0.out hh)
      have Hhh := Lib.hid hh
      have Hcur := Lib.hid Hat.out.2
      clear hcs3 hb hh
      obtain ⟨r, hr⟩ : ∃ r, r = affOf x.affixes names[j] := ⟨_, rfl⟩
      have Hr := Lib.hid hr
      have hcode := apV_code r cur
      have hlim : Hid (AffLim r maxLen) := Lib.hid (by
        obtain ⟨i, hi, -, -, -, e⟩ := hasB_at Hhh.out
        rw [hr, e]
        obtain ⟨t1, t2, ht, ha, -⟩ := HV.out
        exact ha.2 _ (List.getElem_mem hi))
      go_wp2_with fail
      refine (affixNamed_is _ x names[j] _ (HV.out.below HB.out)).mono ?_
      rw [← hr, Hhh.out]
      rintro e w2 ⟨rfl, hb2⟩
      have g0 := cell_below hb2 g0
      have g1 := cell_below hb2 g1
      have HB2 := Lib.hid (HB.out.trans (hb2.mono hsz))
      have hz2 := HB2.out.size
      have hbA : Below w2.heap.size w2 (w2.alloc (.cells #[.string r.name, .bool r.front, .string r.cond, .string r.strip, .string r.add] 51)) := (Below.refl _ _).alloc (Nat.le_refl _) _
      have HBA := Lib.hid (HB2.out.trans (hbA.mono hz2))
      have g0' := cell_below hbA g0
      have g1' := cell_below hbA g1
      clear hb2 hr hbA
      go_wp2_with fail
      refine (implApplyAffix_any _ r cur _ ⟨rfl, hlim.out⟩ (by have := isLong_12 Hcur.out; omega) (HM.out.below HBA.out)).mono ?_
      rw [show appV r cur = apV r cur from appV_ap (by rw [Hr.out]; exact Hok.out) Hcur.out]
      rintro e w3 ⟨rfl, hb3⟩
      have g0 := cell_below hb3 g0'
      have g1 := cell_below hb3 g1'
      have HB3 := Lib.hid (HBA.out.trans (hb3.mono HBA.out.size))
      clear hb3 g0' g1'
      by_cases hz : (apV r cur).2 = 0
      · have Hnx := Lib.hid (show WordAt x.affixes s names (j + 1) (apV r cur).1 by have := Hat.out.next hlt (by rw [← Hr.out]; exact hz); rwa [← Hr.out] at this)
        have hzq : ((apV r cur).2 != 0) = false := by rw [hz]; rfl
        clear hz hcode
        go_wp2
        go_roundw
        case rel => exact ⟨j + 1, _, by omega, by go_num, rfl, Hnx, g0, g1, HB3.out⟩
        case measure => simp [intOf]; omega
      · have Hfl := Lib.hid (show wordV x.affixes s names = (⟨#[]⟩, (apV r cur).2) by have := Hat.out.fail hlt (by rw [← Hr.out]; exact hz); rwa [← Hr.out] at this)
        have hzq : ((apV r cur).2 != 0) = true := by rw [bne_iff_ne]; exact hz
        clear hz hcode
        go_wp2
        go_ret2
        exact ⟨by unfold WordPost; rw [Hfl.out]; rfl, HB3.out⟩
    · have Hd := Lib.hid (Hat.out.done (by omega))
      clear hcs3
      go_wp2
      go_ret2
      exact ⟨by unfold WordPost; rw [Hd.out]; rfl, hb⟩
set_option maxHeartbeats 8000000 in
set_option maxRecDepth 100000 in
theorem isDerivation_any (v : Value) (x : GraD) (v2 : Value) (d : DerD) (w : World) (hv : GraR w v x) (hd : DerR w v2 d) :
    Calls Tryz.prog 37 #[v, v2] w fun e w' => e = .returned (.bool (derB x d)) ∧ Below w.heap.size w w' := by
  obtain ⟨s1, s2, rfl, ha, hs⟩ := hv
  obtain ⟨u, rfl, hdw, hdu⟩ := hd
  have hb0 : Below w.heap.size w ((w.alloc (.cells #[s1, s2] 27)).alloc (.cells #[.string d.stem, u] 37)) := ((Below.refl _ _).alloc (Nat.le_refl _) _).alloc (by simp) _
  have hG1 := (src_cell (i := 1) (v := s2) (heap_alloc2_old w (.cells #[s1, s2] 27) (.cells #[.string d.stem, u] 37)) rfl).1
  have hD0 := (src_cell (i := 0) (v := .string d.stem) (heap_alloc2_new w (.cells #[s1, s2] 27) (.cells #[.string d.stem, u] 37)) rfl).1
  have hD1 := (src_cell (i := 1) (v := u) (heap_alloc2_new w (.cells #[s1, s2] 27) (.cells #[.string d.stem, u] 37)) rfl).1
  have hmf : ∀ (fn : Fn) (first cap : Array Value) (w : World), (Instr.makeFunc fn first cap).run Tryz.prog w = .ok (.func fn first cap) w := fun _ _ _ _ => rfl
  have HD := Lib.hid hdu
  have Hs := Lib.hid hs
  obtain ⟨a1, k1, rfl, -⟩ := ha.shape
  obtain ⟨a2, k2, rfl, hl2, hk2, hcs2⟩ := hs.shape
  obtain ⟨da, dc, rfl, hdl, hdc, hds⟩ := hdu.shape
  unfold maxLen at hdc hk2
  have HB0 := Lib.hid hb0
  have Hs0 := Lib.hid (hs.below hb0)
  clear ha hs hdu hb0
  go_enter Tryz.func37, Tryz.ntmps37
  go_wp2_with fail
  refine (indexStem_any _ x.stems d.stem (w.heap.size + 1) _ Hs0.out hD0).mono ?_
  rintro e w1 ⟨rfl, hb1⟩
  have jD1 := cell_below hb1 hD1
  have jG1 := cell_below hb1 hG1
  have HB1 := Lib.hid (HB0.out.trans (hb1.mono HB0.out.size))
  have hz1 := HB1.out.size
  clear hb1 hmf hD0 hD1 hG1
  rcases stm_cases x.stems d.stem with ⟨hi, -⟩ | ⟨i, hii, hi, -, -⟩
  · have Hno := Lib.hid (show derB x d = false from derB_no fun ⟨j, hj, h1, h2, h3⟩ => by omega)
    rw [hi]
    clear hcs2 hds hi
    go_wp2
    go_ret
    exact ⟨ret_bool Hno.out.symm, HB1.out⟩
  · rw [hi]
    have Hi := Lib.hid hi
    clear hi
    have hi0 : (0 : Int) ≤ (i : Int) := by omega
    have hin : decide ((i : Int) < 0) = false := by rw [decide_eq_false_iff_not]; omega
    have hiI : (i : Int) < (x.stems.length : Int) := by omega
    obtain ⟨b4, o4, u4, he4, f0, f1, -, hu4⟩ := hcs2 i hii
    have HU4 := Lib.hid hu4
    obtain ⟨a5, k5, rfl, -⟩ := hu4.shape
    subst he4
    have f1 := (HB1.out.cell (cell_lt f1)).trans f1
    clear hcs2 f0 hu4
    by_cases h2 : d.affixes.length ≤ 2
    · have hd2 : decide ((2 : Int) < (d.affixes.length : Int)) = false := by rw [decide_eq_false_iff_not]; omega
      go_wp2
      go_loopw [23] (fun c wr => ∃ k : Nat, k ≤ d.affixes.length ∧ c = .int .i64 (k : Int) ∧ Hid (DerTo x.stems[i].uses d.affixes k) ∧ Below w1.heap.size w1 wr) (fun c _ => d.affixes.length - (intOf c).toNat)
      case atStart => exact ⟨0, by omega, rfl, Lib.hid DerTo.zero, Below.refl _ _⟩
      case round =>
        obtain ⟨k, hk, rfl, Hto, hbr⟩ := hrel
        have HBw := Lib.hid (HB1.out.trans (hbr.mono hz1))
        by_cases hlt : k < d.affixes.length
        · obtain ⟨b2, o2, rfl, e2, -⟩ := hds k hlt
          have c2 := (HBw.out.cell (cell_lt e2)).trans e2
          have c1 := cell_below hbr jD1
          have g1 := cell_below hbr jG1
          have f1' := cell_below hbr f1
          have HUr := Lib.hid (HU4.out.below HBw.out)
          have HDr := Lib.hid (HD.out.below HBw.out)
          have hfst := idx_first hlt
          have Hfst := Lib.hid hfst
          have HBr := Lib.hid hbr
          clear hds e2 hbr hfst
          cases hi1 : inB x.stems[i].uses d.affixes[k]
          · have Hno := Lib.hid (show derB x d = false from derB_no fun ⟨j, hj, h1, h2, h3⟩ => by
              have e : j = i := by have := Hi.out; omega
              subst e
              have := (h3 k hlt hlt).1
              rw [hi1] at this; cases this)
            go_wp2_with (first
              | (go_at_call 64; refine (containsS_any _ _ d.affixes[k] _ HUr.out).mono ?_; rintro e w2 ⟨rfl, rfl⟩; rw [hi1]))
            go_ret
            exact ⟨ret_bool Hno.out.symm, HBw.out⟩
          · cases hi2 : inB (d.affixes.take k) d.affixes[k]
            · have hix : idxI d.affixes d.affixes[k] = (k : Int) := Hfst.out.2 hi2
              have hq : ((k : Int) != (k : Int)) = false := by simp
              have Hn := Lib.hid (Hto.out.succ hlt hi1 hi2)
              go_wp2_with (first
                | (go_at_call 64; refine (containsS_any _ _ d.affixes[k] _ HUr.out).mono ?_; rintro e w2 ⟨rfl, rfl⟩; rw [hi1])
                | (go_at_call 65; refine (indexS_any _ _ d.affixes[k] _ HDr.out).mono ?_; rintro e w2 ⟨rfl, rfl⟩; rw [hix]))
              go_roundw
              case rel => exact ⟨k + 1, by omega, by go_num, Hn, HBr.out⟩
              case measure => simp [intOf]; omega
            · have hix : (idxI d.affixes d.affixes[k] != (k : Int)) = true := by
                rw [bne_iff_ne]
                intro e
                have := Hfst.out.1 e
                rw [hi2] at this; cases this
              have Hno := Lib.hid (show derB x d = false from derB_no fun ⟨j, hj, h1, h2, h3⟩ => by
                have e : j = i := by have := Hi.out; omega
                subst e
                have := (h3 k hlt hlt).2
                rw [hi2] at this; cases this)
              go_wp2_with (first
                | (go_at_call 64; refine (containsS_any _ _ d.affixes[k] _ HUr.out).mono ?_; rintro e w2 ⟨rfl, rfl⟩; rw [hi1])
                | (go_at_call 65; refine (indexS_any _ _ d.affixes[k] _ HDr.out).mono ?_; rintro e w2 ⟨rfl, rfl⟩))
              go_ret
              exact ⟨ret_bool Hno.out.symm, HBw.out⟩
        · obtain rfl : k = d.affixes.length := by omega
          have Hyes := Lib.hid (show derB x d = true from derB_yes ⟨i, hii, Hi.out, h2, Hto.out⟩)
          clear hds
          go_wp2
          go_ret
          exact ⟨ret_bool Hyes.out.symm, HBw.out⟩
    · have hd2 : decide ((2 : Int) < (d.affixes.length : Int)) = true := by rw [decide_eq_true_iff]; omega
      have Hno := Lib.hid (show derB x d = false from derB_no fun ⟨j, hj, h1, h3, h4⟩ => h2 h3)
      clear hds
      go_wp2
      go_ret
      exact ⟨ret_bool Hno.out.symm, HB1.out⟩
set_option maxHeartbeats 4000000 in
set_option maxRecDepth 100000 in
theorem implWordOf_any (v : Value) (x : GraD) (v2 : Value) (d : DerD) (w : World) (hv : GraR w v x) (hd : DerR w v2 d) (hM : MaxL w) :
    Calls Tryz.prog 12 #[v, v2] w fun e w' => e = .returned (.tuple #[.string (woV x d).1, .int .i64 (woV x d).2]) ∧ Below w.heap.size w w' := by
  have HV := Lib.hid hv
  have HDR := Lib.hid hd
  have HM := Lib.hid hM
  obtain ⟨s1, s2, rfl, ha, hs⟩ := hv
  obtain ⟨u, rfl, hdw, hdu⟩ := hd
  have hb0 : Below w.heap.size w ((w.alloc (.cells #[s1, s2] 27)).alloc (.cells #[.string d.stem, u] 37)) := ((Below.refl _ _).alloc (Nat.le_refl _) _).alloc (by simp) _
  have hG0 := (src_cell (i := 0) (v := s1) (heap_alloc2_old w (.cells #[s1, s2] 27) (.cells #[.string d.stem, u] 37)) rfl).1
  have hG1 := (src_cell (i := 1) (v := s2) (heap_alloc2_old w (.cells #[s1, s2] 27) (.cells #[.string d.stem, u] 37)) rfl).1
  have hD0 := (src_cell (i := 0) (v := .string d.stem) (heap_alloc2_new w (.cells #[s1, s2] 27) (.cells #[.string d.stem, u] 37)) rfl).1
  have hD1 := (src_cell (i := 1) (v := u) (heap_alloc2_new w (.cells #[s1, s2] 27) (.cells #[.string d.stem, u] 37)) rfl).1
  have HDU := Lib.hid hdu
  obtain ⟨a1, k1, rfl, -⟩ := ha.shape
  obtain ⟨a2, k2, rfl, -⟩ := hs.shape
  obtain ⟨da, dc, rfl, -⟩ := hdu.shape
  have HB0 := Lib.hid hb0
  clear ha hs hdu hb0 hM
  go_enter Tryz.func12, Tryz.ntmps12
  go_wp2_with fail
  refine (implValidGrammar_any _ x _ (HV.out.below HB0.out) (HM.out.below HB0.out)).mono ?_
  rintro e w1 ⟨rfl, hb1⟩
  have hD0 := cell_below hb1 hD0
  have hD1 := cell_below hb1 hD1
  have hG0 := cell_below hb1 hG0
  have hG1 := cell_below hb1 hG1
  have HB1 := Lib.hid (HB0.out.trans (hb1.mono HB0.out.size))
  clear hb1
  cases hok : graB x
  · have Hok := Lib.hid hok
    go_wp2
    go_ret2
    exact ⟨by rw [woV_bad Hok.out]; rfl, HB1.out⟩
  · have Hok := Lib.hid hok
    clear hok
    go_wp2_with fail
    refine (isDerivation_any _ x _ d _ (HV.out.below HB1.out) (HDR.out.below HB1.out)).mono ?_
    rintro e w2 ⟨rfl, hb2⟩
    have hD0 := cell_below hb2 hD0
    have hD1 := cell_below hb2 hD1
    have hG0 := cell_below hb2 hG0
    have hG1 := cell_below hb2 hG1
    have HB2 := Lib.hid (HB1.out.trans (hb2.mono HB1.out.size))
    clear hb2
    cases hder : derB x d
    · have Hder := Lib.hid hder
      go_wp2
      go_ret2
      exact ⟨by rw [woV_not Hok.out Hder.out]; rfl, HB2.out⟩
    · have Hder := Lib.hid hder
      have Hnm := Lib.hid (DerOk.names (graB_iff.1 Hok.out) (derB_iff.1 hder))
      have Hwo := Lib.hid (woV_yes Hok.out hder)
      clear hder
      go_wp2_with fail
      refine (applied_any _ x d.stem _ d.affixes _ (HV.out.below HB2.out) (graB_iff.1 Hok.out).1 Hnm.out.1 (HDU.out.below HB2.out) Hnm.out.2 (HM.out.below HB2.out)).mono ?_
      rintro e w3 ⟨hwp, hb3⟩
      unfold WordPost at hwp
      subst hwp
      have HB3 := Lib.hid (HB2.out.trans (hb3.mono HB2.out.size))
      clear hb3
      go_wp2
      go_ret2
      exact ⟨by rw [Hwo.out]; rfl, HB3.out⟩
end Go.Proofs.YtndfhmphlomeiaaGreatDoor
/- GrammarText of the program: lines out of strings.Join, into a strings.Builder. Condition: MaxLen's cell. -/
namespace Go.Proofs.YtndfhmphlomeiaaGreatDoor
open Go.RowKit
theorem IsB.belowG {B b : Nat} {l : List UInt8} {w w' : World} (h : IsB B b l w) (hb : Below w.heap.size w w') : IsB B b l w' := by
  have hat : ∀ p, Lib.BuilderAt 49 5 B b p (Lib.byteCells l) w → Lib.BuilderAt 49 5 B b p (Lib.byteCells l) w' := by
    rintro p ⟨hB, v, hbk, hown, hne⟩
    refine ⟨hB, v, (hb.block b (Array.getElem?_eq_some_iff.1 hbk).1).trans hbk, ?_, hne⟩
    exact World.ownsRow.kept hown ⟨hb.os, hb.tape, hb.output, hb.size, fun k hk _ => hb.block k hk⟩ (by cases v.ownBlock <;> simp) (row := none)
  exact h.imp (hat _) (hat _)
attribute [local irreducible] Calls
theorem dashed_is {s r : ByteArray} (h : dashB s = r) (w : World) : Calls Tryz.prog 23 #[.string s] w fun e w' => e = .returned (.string r) ∧ w = w' := by
  subst h
  cases h : s.toList.isEmpty
  · have H := Lib.hid (show dashB s = s by simp [dashB, h])
    go_enter Tryz.func23, Tryz.ntmps23
    go_wp2
    go_ret
    exact ⟨ret_str H.out.symm, rfl⟩
  · have H := Lib.hid (show dashB s = ⟨#[45]⟩ by simp [dashB, h])
    go_enter Tryz.func23, Tryz.ntmps23
    go_wp2
    go_ret
    exact ⟨ret_str H.out.symm, rfl⟩
/-- strings.Join of a row that was made just ahead. -/
theorem joinNew (w : World) (l : List ByteArray) (J : List UInt8) (hJ : Lib.join (l.map (·.data.toList)) [32] = J) (n : Nat) (hn : n = l.length) (us : Array Value) (hus : us = (l.map Value.string).toArray) (hl : J.length ≤ 100000) (hn2 : l.length ≤ 1000000) :
    Calls Tryz.prog 22 #[.slice (some ⟨w.heap.size, 0, none⟩) n n, .string ⟨#[32]⟩] (w.alloc (.cells us 9)).drew fun e w' => ∃ r, e = .returned (.string r) ∧ r.data.toList = J ∧ Below w.heap.size w w' := by
  subst hn hus hJ
  have h := Tryz.strings_Join w.heap.size 0 l.length l ⟨#[32]⟩ (w.alloc (.cells (l.map Value.string).toArray 9)).drew (fun j u hj => by
    show (w.alloc (.cells (l.map Value.string).toArray 9)).cell? _ = _
    simp only [World.cell?, heap_alloc_new, Nat.zero_add]
    simp [hj]) (by simp) (by omega) (Nat.le_refl _) (by show (Lib.join _ [32]).length ≤ _; omega)
  refine h.mono ?_
  rintro e w' ⟨rfl, hb⟩
  exact ⟨_, rfl, rfl, (((Below.refl _ _).alloc (Nat.le_refl _) _).drew).trans (hb.mono (by simp))⟩
/-- strings.Join of a slice of the call's own. -/
theorem joinOwn {w : World} {B g n cap : Nat} {l : List ByteArray} (hown : OwnS w B (.slice (some ⟨g, 0, none⟩) n cap) l) (J : List UInt8) (hJ : Lib.join (l.map (·.data.toList)) [32] = J) (hl : J.length ≤ 100000) (hn : l.length ≤ 1000000) :
    Calls Tryz.prog 22 #[.slice (some ⟨g, 0, none⟩) n cap, .string ⟨#[32]⟩] w fun e w' => ∃ r, e = .returned (.string r) ∧ r.data.toList = J ∧ Below w.heap.size w w' := by
  subst hJ
  have hlt : g < w.heap.size := (World.ownsRow.lt hown g rfl).2
  obtain ⟨a', c', e, hc, -⟩ := hown.shape
  injection e with e1 e2 e3
  subst e2
  subst e3
  refine (Tryz.strings_Join g 0 cap l ⟨#[32]⟩ w (fun j u hj => ?_) hlt (by omega) hc (by show (Lib.join _ [32]).length ≤ _; omega)).mono ?_
  · have h1 := World.ownsRow.cells hown (g := g) rfl j (.string u) (by rw [List.getElem?_map, hj]; rfl)
    have h2 : (⟨g, 0, none⟩ : Addr).add j = ⟨g, 0 + j, none⟩ := by unfold Addr.add; split <;> simp_all
    rw [h2] at h1
    exact h1
  · rintro e w' ⟨rfl, hb⟩
    exact ⟨_, rfl, rfl, hb⟩
theorem ba_app_size (a b : ByteArray) : (a ++ b).size = a.size + b.size := ByteArray.size_append
theorem cell_of_same {w w' : World} {b o : Nat} {u : Value} (h : w'.heap[b]? = w.heap[b]?) (hc : w.cell? ⟨b, o, none⟩ = some u) : w'.cell? ⟨b, o, none⟩ = some u := by
  rw [← hc]; simp only [World.cell?, h]
theorem bigJ {n m : Nat} (h : n = m) (h2 : m ≤ 100000) : (9223372036854775807 < n + 1) = False := eq_false (by omega)
set_option maxHeartbeats 8000000 in
set_option maxRecDepth 200000 in
theorem implGrammarText_any (v : Value) (x : GraD) (w : World) (hv : GraR w v x) (hM : MaxL w) :
    Calls Tryz.prog 6 #[v] w fun e w' => e = .returned (.string (gtV x)) ∧ Below w.heap.size w w' := by
  have HV := Lib.hid hv
  obtain ⟨s1, s2, rfl, ha, hs⟩ := hv
  obtain ⟨a1, k1, rfl, hl1, hk1, hcs1⟩ := ha.shape
  obtain ⟨a2, k2, rfl, hl2, hk2, hcs2⟩ := hs.shape
  unfold maxLen at hk1 hk2
  have hb0 : Below w.heap.size w (w.alloc (.cells #[.slice a1 x.affixes.length k1, .slice a2 x.stems.length k2] 27)) := (Below.refl _ _).alloc (Nat.le_refl _) _
  have g0 := cell_newi w #[.slice a1 x.affixes.length k1, .slice a2 x.stems.length k2] 27 0 (.slice a1 x.affixes.length k1) rfl
  have g1 := cell_newi w #[.slice a1 x.affixes.length k1, .slice a2 x.stems.length k2] 27 1 (.slice a2 x.stems.length k2) rfl
  have hz0 : (w.alloc (.cells #[.slice a1 x.affixes.length k1, .slice a2 x.stems.length k2] 27)).heap.size = w.heap.size + 1 := by simp
  have HB0 := Lib.hid hb0
  have HV0 := Lib.hid (HV.out.below hb0)
  have HM0 := Lib.hid (hM.below hb0)
  clear ha hs hM hb0
  go_enter Tryz.func6, Tryz.ntmps6
  go_wp2_with fail
  refine (implValidGrammar_any _ x _ HV0.out HM0.out).mono ?_
  rintro e w1 ⟨rfl, hb1⟩
  have HB1 := Lib.hid (HB0.out.trans (hb1.mono HB0.out.size))
  have g0 := cell_below hb1 g0
  have g1 := cell_below hb1 g1
  have hz1 : w.heap.size < w1.heap.size := by have := hb1.size; omega
  clear hb1
  cases hg : graB x
  · have Hg := Lib.hid hg
    go_wp2
    go_ret
    exact ⟨ret_str (gtV_no Hg.out).symm, HB1.out⟩
  · have Hg := Lib.hid hg
    have HS := Lib.hid (graS hg)
    have hn12 := (graS hg).a
    have hn30 := (graS hg).s
    have HC1 := Lib.hid hcs1
    have HC2 := Lib.hid hcs2
    have g0a := cell_alloc (.cells #[.pointer none, .slice none 0 0] 49) g0
    have g1a := cell_alloc (.cells #[.pointer none, .slice none 0 0] 49) g1
    have HIs := Lib.hid (IsB.fresh w1 w1.heap.size (Nat.le_refl _))
    have HBf := Lib.hid ((Below.refl w1.heap.size w1).alloc (Nat.le_refl _) (.cells #[.pointer none, .slice none 0 0] 49))
    clear hg hcs1 hcs2
    go_wp2
    clear g0a g1a
    go_loopw [15] (fun i wr => ∃ j : Nat, j ≤ x.affixes.length ∧ i = .int .i64 (j : Int) ∧ Hid (IsB w1.heap.size w1.heap.size ((x.affixes.take j).flatMap affT) wr) ∧ Hid (Below w1.heap.size w1 wr)) (fun i _ => x.affixes.length - (intOf i).toNat)
    case atStart => exact ⟨0, by omega, rfl, Lib.hid (by simpa using HIs.out), HBf⟩
    case round =>
      clear HIs HBf
      obtain ⟨j, hj, rfl, HI, HB⟩ := hrel
      have h0 := cell_below HB.out g0
      have h1 := cell_below HB.out g1
      have hzr := HB.out.size
      by_cases hlt : j < x.affixes.length
      · obtain ⟨b1, o1, rfl, e0, e1, e2, e3, e4, -⟩ := HC1.out j hlt
        have hBw := HB1.out.trans (HB.out.mono HB1.out.size)
        have hA := HS.out.afs j hlt
        have hA48 := joinA_le hA
        have hT := affs_le HS.out j
        have hA4 := affT_le hA
        obtain ⟨p1, hp1⟩ : ∃ p1, dashB x.affixes[j].cond = p1 := ⟨_, rfl⟩
        obtain ⟨p2, hp2⟩ : ∃ p2, dashB x.affixes[j].strip = p2 := ⟨_, rfl⟩
        obtain ⟨p3, hp3⟩ : ∃ p3, dashB x.affixes[j].add = p3 := ⟨_, rfl⟩
        have HP := Lib.hid (And.intro hp1 (And.intro hp2 hp3))
        have e0 := cell_below hBw e0
        have e1 := cell_below hBw e1
        have e2 := cell_below hBw e2
        have e3 := cell_below hBw e3
        have e4 := cell_below hBw e4
        have hbn : Below wr.heap.size wr (wr.alloc (.cells #[.string x.affixes[j].name, .bool x.affixes[j].front, .string x.affixes[j].cond, .string x.affixes[j].strip, .string x.affixes[j].add] 51)) := (Below.refl _ _).alloc (Nat.le_refl _) _
        have HIn := Lib.hid (HI.out.belowG hbn)
        have HBn := Lib.hid hbn
        clear hA hp1 hp2 hp3 hBw hbn
        cases hf : x.affixes[j].front
        · have HF := Lib.hid hf
          have c0 := cell_newi wr #[.string x.affixes[j].name, .bool x.affixes[j].front, .string x.affixes[j].cond, .string x.affixes[j].strip, .string x.affixes[j].add] 51 0 (.string x.affixes[j].name) rfl
          have c1 := cell_newi wr #[.string x.affixes[j].name, .bool x.affixes[j].front, .string x.affixes[j].cond, .string x.affixes[j].strip, .string x.affixes[j].add] 51 1 (.bool x.affixes[j].front) rfl
          have c2 := cell_newi wr #[.string x.affixes[j].name, .bool x.affixes[j].front, .string x.affixes[j].cond, .string x.affixes[j].strip, .string x.affixes[j].add] 51 2 (.string x.affixes[j].cond) rfl
          have c3 := cell_newi wr #[.string x.affixes[j].name, .bool x.affixes[j].front, .string x.affixes[j].cond, .string x.affixes[j].strip, .string x.affixes[j].add] 51 3 (.string x.affixes[j].strip) rfl
          have c4 := cell_newi wr #[.string x.affixes[j].name, .bool x.affixes[j].front, .string x.affixes[j].cond, .string x.affixes[j].strip, .string x.affixes[j].add] 51 4 (.string x.affixes[j].add) rfl
          have hJ : Lib.join (([⟨#[97, 102, 102, 105, 120]⟩, x.affixes[j].name, ⟨#[98, 97, 99, 107]⟩, p1, p2, p3] : List ByteArray).map (·.data.toList)) [32] = Lib.join ((affW x.affixes[j]).map (·.data.toList)) [32] := by rw [affW, HP.out.1, HP.out.2.1, HP.out.2.2, hf]; rfl
          obtain ⟨J, hJe⟩ : ∃ J, Lib.join ((affW x.affixes[j]).map (·.data.toList)) [32] = J := ⟨_, rfl⟩
          rw [hJe] at hJ hA48
          have HJ := Lib.hid hJ
          have HJe := Lib.hid hJe
          rw [hf] at e1 c0 c1 c2 c3 c4 HIn HBn
          have hzq : (wr.alloc (.cells #[.string x.affixes[j].name, .bool false, .string x.affixes[j].cond, .string x.affixes[j].strip, .string x.affixes[j].add] 51)).heap.size = wr.heap.size + 1 := by simp
          have HI0 := HI
          clear hf hJ hJe HI
          go_wp2_with fail
          generalize wr.alloc (.cells #[.string x.affixes[j].name, .bool false, .string x.affixes[j].cond, .string x.affixes[j].strip, .string x.affixes[j].add] 51) = wq at HIn HBn c0 c1 c2 c3 c4 hzq ⊢
          have hqlt : wr.heap.size < wq.heap.size := by omega
          clear c1 hzq
          go_region_held3 (fun w' => w'.cell? ⟨wr.heap.size, 0, none⟩ = some (.string x.affixes[j].name) ∧ w'.cell? ⟨wr.heap.size, 2, none⟩ = some (.string x.affixes[j].cond) ∧ w'.cell? ⟨wr.heap.size, 3, none⟩ = some (.string x.affixes[j].strip) ∧ w'.cell? ⟨wr.heap.size, 4, none⟩ = some (.string x.affixes[j].add))
            (first | exact ⟨c0, c2, c3, c4⟩ | assumption | exact ⟨cell_of_same hk5 (cell_below hb4 c0), cell_of_same hk5 (cell_below hb4 c2), cell_of_same hk5 (cell_below hb4 c3), cell_of_same hk5 (cell_below hb4 c4)⟩ | exact ⟨cell_below hb4 c0, cell_below hb4 c2, cell_below hb4 c3, cell_below hb4 c4⟩ | exact ⟨cell_alloc _ c0, cell_alloc _ c2, cell_alloc _ c3, cell_alloc _ c4⟩)
            (first
              | (go_at_call 23; refine (dashed_is HP.out.1 _).mono ?_; rintro e w2 ⟨rfl, rfl⟩)
              | (go_at_call 23; refine (dashed_is HP.out.2.1 _).mono ?_; rintro e w2 ⟨rfl, rfl⟩)
              | (go_at_call 23; refine (dashed_is HP.out.2.2 _).mono ?_; rintro e w2 ⟨rfl, rfl⟩)
              | (go_at_call 21; refine (writeString_at w1.heap.size w1.heap.size _ _ wr _ HI0.out (HBn.out.trans (hb4.mono HBn.out.size)) (HIn.out.belowG hb4) (Nat.lt_of_lt_of_le hqlt hb4.size) (by rw [ba_app_size, HRN.out]; show _ + (J.length + 1) ≤ _; omega) (Nat.le_trans hzr (Nat.le_trans HBn.out.size hb4.size))).mono ?_; rintro e w5 ⟨rfl, hI5, hb5, hk5⟩)
              | (go_at_call 22; refine (joinNew wq [⟨#[97, 102, 102, 105, 120]⟩, x.affixes[j].name, ⟨#[98, 97, 99, 107]⟩, p1, p2, p3] J HJ.out 6 rfl _ rfl (by omega) (by show 6 ≤ 1000000; omega)).mono ?_; rintro e w4 ⟨r, rfl, hr, hb4'⟩; have HR := Lib.hid hr; have hb4 : Below wq.heap.size wq w4 := hb4'; have hrs := bigJ (ba_size hr) (by omega); have HRN := Lib.hid (ba_size hr); clear hr hb4'))
          have HI5 : Hid (IsB w1.heap.size w1.heap.size ((x.affixes.take (j + 1)).flatMap affT) w5) := Lib.hid (by
            rw [flat_snoc _ _ _ hlt, ← join_affW, HJe.out, ← HR.out]
            simpa using hI5)
          have HB5 : Hid (Below w1.heap.size w1 w5) := Lib.hid ((HB.out.trans ((HBn.out.trans (hb4.mono HBn.out.size)).mono hzr)).trans hb5)
          clear hI5 hb5 hk5 hb4 c0 c2 c3 c4
          go_wp2
          go_roundw
          case rel => exact ⟨j + 1, by omega, by go_num, HI5, HB5⟩
          case measure => simp [intOf]; omega
        · have HF := Lib.hid hf
          have c0 := cell_newi wr #[.string x.affixes[j].name, .bool x.affixes[j].front, .string x.affixes[j].cond, .string x.affixes[j].strip, .string x.affixes[j].add] 51 0 (.string x.affixes[j].name) rfl
          have c1 := cell_newi wr #[.string x.affixes[j].name, .bool x.affixes[j].front, .string x.affixes[j].cond, .string x.affixes[j].strip, .string x.affixes[j].add] 51 1 (.bool x.affixes[j].front) rfl
          have c2 := cell_newi wr #[.string x.affixes[j].name, .bool x.affixes[j].front, .string x.affixes[j].cond, .string x.affixes[j].strip, .string x.affixes[j].add] 51 2 (.string x.affixes[j].cond) rfl
          have c3 := cell_newi wr #[.string x.affixes[j].name, .bool x.affixes[j].front, .string x.affixes[j].cond, .string x.affixes[j].strip, .string x.affixes[j].add] 51 3 (.string x.affixes[j].strip) rfl
          have c4 := cell_newi wr #[.string x.affixes[j].name, .bool x.affixes[j].front, .string x.affixes[j].cond, .string x.affixes[j].strip, .string x.affixes[j].add] 51 4 (.string x.affixes[j].add) rfl
          have hJ : Lib.join (([⟨#[97, 102, 102, 105, 120]⟩, x.affixes[j].name, ⟨#[102, 114, 111, 110, 116]⟩, p1, p2, p3] : List ByteArray).map (·.data.toList)) [32] = Lib.join ((affW x.affixes[j]).map (·.data.toList)) [32] := by rw [affW, HP.out.1, HP.out.2.1, HP.out.2.2, hf]; rfl
          obtain ⟨J, hJe⟩ : ∃ J, Lib.join ((affW x.affixes[j]).map (·.data.toList)) [32] = J := ⟨_, rfl⟩
          rw [hJe] at hJ hA48
          have HJ := Lib.hid hJ
          have HJe := Lib.hid hJe
          rw [hf] at e1 c0 c1 c2 c3 c4 HIn HBn
          have hzq : (wr.alloc (.cells #[.string x.affixes[j].name, .bool true, .string x.affixes[j].cond, .string x.affixes[j].strip, .string x.affixes[j].add] 51)).heap.size = wr.heap.size + 1 := by simp
          have HI0 := HI
          clear hf hJ hJe HI
          go_wp2_with fail
          generalize wr.alloc (.cells #[.string x.affixes[j].name, .bool true, .string x.affixes[j].cond, .string x.affixes[j].strip, .string x.affixes[j].add] 51) = wq at HIn HBn c0 c1 c2 c3 c4 hzq ⊢
          have hqlt : wr.heap.size < wq.heap.size := by omega
          clear c1 hzq
          go_region_held3 (fun w' => w'.cell? ⟨wr.heap.size, 0, none⟩ = some (.string x.affixes[j].name) ∧ w'.cell? ⟨wr.heap.size, 2, none⟩ = some (.string x.affixes[j].cond) ∧ w'.cell? ⟨wr.heap.size, 3, none⟩ = some (.string x.affixes[j].strip) ∧ w'.cell? ⟨wr.heap.size, 4, none⟩ = some (.string x.affixes[j].add))
            (first | exact ⟨c0, c2, c3, c4⟩ | assumption | exact ⟨cell_of_same hk5 (cell_below hb4 c0), cell_of_same hk5 (cell_below hb4 c2), cell_of_same hk5 (cell_below hb4 c3), cell_of_same hk5 (cell_below hb4 c4)⟩ | exact ⟨cell_below hb4 c0, cell_below hb4 c2, cell_below hb4 c3, cell_below hb4 c4⟩ | exact ⟨cell_alloc _ c0, cell_alloc _ c2, cell_alloc _ c3, cell_alloc _ c4⟩)
            (first
              | (go_at_call 23; refine (dashed_is HP.out.1 _).mono ?_; rintro e w2 ⟨rfl, rfl⟩)
              | (go_at_call 23; refine (dashed_is HP.out.2.1 _).mono ?_; rintro e w2 ⟨rfl, rfl⟩)
              | (go_at_call 23; refine (dashed_is HP.out.2.2 _).mono ?_; rintro e w2 ⟨rfl, rfl⟩)
              | (go_at_call 21; refine (writeString_at w1.heap.size w1.heap.size _ _ wr _ HI0.out (HBn.out.trans (hb4.mono HBn.out.size)) (HIn.out.belowG hb4) (Nat.lt_of_lt_of_le hqlt hb4.size) (by rw [ba_app_size, HRN.out]; show _ + (J.length + 1) ≤ _; omega) (Nat.le_trans hzr (Nat.le_trans HBn.out.size hb4.size))).mono ?_; rintro e w5 ⟨rfl, hI5, hb5, hk5⟩)
              | (go_at_call 22; refine (joinNew wq [⟨#[97, 102, 102, 105, 120]⟩, x.affixes[j].name, ⟨#[102, 114, 111, 110, 116]⟩, p1, p2, p3] J HJ.out 6 rfl _ rfl (by omega) (by show 6 ≤ 1000000; omega)).mono ?_; rintro e w4 ⟨r, rfl, hr, hb4'⟩; have HR := Lib.hid hr; have hb4 : Below wq.heap.size wq w4 := hb4'; have hrs := bigJ (ba_size hr) (by omega); have HRN := Lib.hid (ba_size hr); clear hr hb4'))
          have HI5 : Hid (IsB w1.heap.size w1.heap.size ((x.affixes.take (j + 1)).flatMap affT) w5) := Lib.hid (by
            rw [flat_snoc _ _ _ hlt, ← join_affW, HJe.out, ← HR.out]
            simpa using hI5)
          have HB5 : Hid (Below w1.heap.size w1 w5) := Lib.hid ((HB.out.trans ((HBn.out.trans (hb4.mono HBn.out.size)).mono hzr)).trans hb5)
          clear hI5 hb5 hk5 hb4 c0 c2 c3 c4
          go_wp2
          go_roundw
          case rel => exact ⟨j + 1, by omega, by go_num, HI5, HB5⟩
          case measure => simp [intOf]; omega
      · obtain rfl : j = x.affixes.length := by omega
        have HI1 : Hid (IsB w1.heap.size w1.heap.size (x.affixes.flatMap affT ++ (x.stems.take 0).flatMap stmT) wr) := Lib.hid (by have := HI.out; rw [flat_all] at this; simpa using this)
        clear HI HC1
        go_wp2
        go_loopw [41] (fun i wr => ∃ j : Nat, j ≤ x.stems.length ∧ i = .int .i64 (j : Int) ∧ Hid (IsB w1.heap.size w1.heap.size (x.affixes.flatMap affT ++ (x.stems.take j).flatMap stmT) wr) ∧ Hid (Below w1.heap.size w1 wr)) (fun i _ => x.stems.length - (intOf i).toNat)
        case atStart => exact ⟨0, by omega, rfl, HI1, HB⟩
        case round =>
          clear HI1 HB h0 h1 hzr
          obtain ⟨j, hj, rfl, HI, HB⟩ := hrel
          have h0 := cell_below HB.out g0
          have h1 := cell_below HB.out g1
          have hzr := HB.out.size
          by_cases hlt : j < x.stems.length
          · obtain ⟨b2, o2, u, rfl, e0, e1, -, hu⟩ := HC2.out j hlt
            obtain ⟨ua, uc, rfl, hul, huc, -⟩ := hu.shape
            unfold maxLen at huc
            have hBw := HB1.out.trans (HB.out.mono HB1.out.size)
            have hM := HS.out.sts j hlt
            have hM180 := joinS_le hM
            have hu12 := hM.u
            have hTa := affs_le HS.out x.affixes.length
            rw [flat_all] at hTa
            have hTs := stms_le HS.out j
            obtain ⟨J, hJe⟩ : ∃ J, Lib.join ((stmW x.stems[j]).map (·.data.toList)) [32] = J := ⟨_, rfl⟩
            rw [hJe] at hM180
            have HJ := Lib.hid hJe
            have e0 := cell_below hBw e0
            have e1 := cell_below hBw e1
            have hbn := ((Below.refl wr.heap.size wr).alloc (Nat.le_refl _) (.cells #[.string x.stems[j].word, .slice ua x.stems[j].uses.length uc] 59)).alloc (by simp) (.cells #[.string ⟨#[115, 116, 101, 109]⟩, .string x.stems[j].word] 9)
            have HBn := Lib.hid hbn
            have HU := Lib.hid ((hu.below hBw).below hbn)
            have c0 := cell_newi wr #[.string x.stems[j].word, .slice ua x.stems[j].uses.length uc] 59 0 (.string x.stems[j].word) rfl
            have c1 := cell_alloc (.cells #[.string ⟨#[115, 116, 101, 109]⟩, .string x.stems[j].word] 9) (cell_newi wr #[.string x.stems[j].word, .slice ua x.stems[j].uses.length uc] 59 1 (.slice ua x.stems[j].uses.length uc) rfl)
            have hzq : (wr.alloc (.cells #[.string x.stems[j].word, .slice ua x.stems[j].uses.length uc] 59)).heap.size = wr.heap.size + 1 := by simp
            have HOW : Hid (OwnS ((wr.alloc (.cells #[.string x.stems[j].word, .slice ua x.stems[j].uses.length uc] 59)).alloc (.cells #[.string ⟨#[115, 116, 101, 109]⟩, .string x.stems[j].word] 9)) (wr.heap.size + 1) (.slice (some ⟨wr.heap.size + 1, 0, none⟩) 2 2) [⟨#[115, 116, 101, 109]⟩, x.stems[j].word]) := Lib.hid (by
              have := World.ownsRow_lit (base := wr.heap.size + 1) (e := 9) (size := 1) (wr.alloc (.cells #[.string x.stems[j].word, .slice ua x.stems[j].uses.length uc] 59)) #[.string ⟨#[115, 116, 101, 109]⟩, .string x.stems[j].word] 2 (by simp) (by unfold maxLen; omega) rfl
              rw [hzq] at this
              exact this)
            have hz2 : wr.heap.size + 1 ≤ ((wr.alloc (.cells #[.string x.stems[j].word, .slice ua x.stems[j].uses.length uc] 59)).alloc (.cells #[.string ⟨#[115, 116, 101, 109]⟩, .string x.stems[j].word] 9)).heap.size := by simp
            have HZ2 := Lib.hid hz2
            clear hM hu hbn hBw hJe hzq hz2
            go_wp2_with (first
              | (at_builtin; refine app_lst (w := (wr.alloc (.cells #[.string x.stems[j].word, .slice ua x.stems[j].uses.length uc] 59)).alloc (.cells #[.string ⟨#[115, 116, 101, 109]⟩, .string x.stems[j].word] 9)) rfl (.tmp 47) (.tmp 49) rfl (wr.heap.size + 1) (wr.heap.size + 1) 2 2 [⟨#[115, 116, 101, 109]⟩, x.stems[j].word] rfl rfl HOW.out ua x.stems[j].uses.length uc x.stems[j].uses rfl HU.out (by show 2 + _ ≤ _; omega) HZ2.out (2 + x.stems[j].uses.length) rfl (stmW x.stems[j]) rfl ?_; intro g cap w2 hown2 hgr2 hloc2)
              | fail)
            have HB2 : Hid (Below wr.heap.size wr w2) := Lib.hid (HBn.out.grown hgr2 (Nat.le_trans (Nat.le_succ _) HZ2.out) (fun k hk => by have := Option.some.inj hk; omega))
            have HO2 := Lib.hid hown2
            clear hgr2 hloc2 hown2 c0 c1 HOW HU
            go_wp2_with fail
            refine (joinOwn HO2.out J HJ.out (by omega) (by simp [stmW]; omega)).mono ?_
            rintro e w3 ⟨r, rfl, hr, hb3⟩
            have HR := Lib.hid hr
            have hrn := ba_size hr
            have hrs := bigJ hrn (by omega)
            have HB3 := Lib.hid (HB2.out.trans (hb3.mono HB2.out.size))
            clear hr hb3 HO2
            go_wp2_with fail
            refine (writeString_any w1.heap.size w1.heap.size _ _ _ (HI.out.belowG HB3.out) (by rw [ba_app_size, hrn, List.length_append]; show _ + (J.length + 1) ≤ _; omega) (Nat.le_trans hzr HB3.out.size)).mono ?_
            rintro e w4 ⟨rfl, hI4, hb4⟩
            have HI4 : Hid (IsB w1.heap.size w1.heap.size (x.affixes.flatMap affT ++ (x.stems.take (j + 1)).flatMap stmT) w4) := Lib.hid (by
              rw [flat_snoc _ _ _ hlt, ← join_stmW, HJ.out, ← HR.out]
              simpa using hI4)
            have HB4 : Hid (Below w1.heap.size w1 w4) := Lib.hid ((HB.out.trans (HB3.out.mono hzr)).trans hb4)
            clear hI4 hb4
            go_wp2
            go_roundw
            case rel => exact ⟨j + 1, by omega, by go_num, HI4, HB4⟩
            case measure => simp [intOf]; omega
          · obtain rfl : j = x.stems.length := by omega
            go_wp2_with fail
            refine (Tryz.Builder_String_any w1.heap.size w1.heap.size _ _ HI.out hzr).mono ?_
            rintro e w2 ⟨rfl, hb2⟩
            have HB2 : Hid (Below w1.heap.size w1 w2) := Lib.hid (HB.out.trans (by first | exact hb2 | exact hb2.mono hzr | (subst hb2; exact Below.refl _ _)))
            clear hb2
            go_wp2
            go_ret
            exact ⟨ret_str (by rw [gtV_yes Hg.out]; first | rfl | (rw [flat_all]; rfl)), HB1.out.trans (HB2.out.mono HB1.out.size)⟩
end Go.Proofs.YtndfhmphlomeiaaGreatDoor
