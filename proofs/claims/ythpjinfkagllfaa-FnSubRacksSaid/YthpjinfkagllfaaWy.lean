/- WaysToMake of the reference. Conditions: a pile, a word. -/
import Derived.Test.YthpjinfkagllfaaN
import Derived.Test.YthpjinfkagllfaaWyL
import Derived.Test.YthpjinfkagllfaaL
import Derived.Deep.RegionHeld3
import Derived.Deep.AppendLies
set_option linter.unusedSimpArgs false
namespace Go.Proofs.Ythpjinfkagllfaa
open Go.RowKit
/-- append(out, s) at a step of a region that draws its order, with where the new slice lies. -/
theorem step_str_at {ops : Array Oper} {o : Oper} {a : Act} {K : Act → World → Prop} {Q : Exit → Act → World → Prop} {E : Prop} {w : World} (hgd : o.guard = none) (s x : Operand)
    (ho : o.op = .call { callee := .builtin .append, args := #[s, x], argTypes := #[22, 22] })
    (B : Nat) (v : Value) (l : List ByteArray) (hs : a.eval s = v) (hown : OwnS w B v l) (c : ByteArray) (hx : a.eval x = .slice (some ⟨w.heap.size, 0, none⟩) 1 1)
    (hn : l.length ≤ 4398046511104) (hB : B ≤ w.heap.size)
    (h : ∀ g cap w', OwnS w' B (.slice (some ⟨g, 0, none⟩) (l.length + 1) cap) (l ++ [c]) → (∀ w0, Below B w0 w → Below B w0 w') → w.grownBy w' v.ownBlock → (some g = v.ownBlock ∨ w.heap.size ≤ g) → K (a.put o.dst (.slice (some ⟨g, 0, none⟩) (l.length + 1) cap)) w') :
    if Region.wanted o (yielded ops a.tmps) = true then Oper.wp Try.prog o a (w.alloc (.cells #[.string c] 9)) K Q else E := by
  obtain ⟨i, hi, hz0, hz1, hz2⟩ := info_parts infoStr
  refine step_append_lies _ hgd s x 22 ho B 9 i (.string ⟨#[]⟩) 1 16 Try.underlying22 hi hz0 hz1 hz2 rfl (by decide) v l.length (l.map Value.string) hs (World.ownsRow.alloc hown _) ⟨w.heap.size, 0, none⟩ 1 1 [.string c] hx rfl (cell_one_new _ _ _) ?_ (by decide) (by unfold maxLen; omega) (by omega) (by simp; omega) _ rfl ?_
  · intro u hu; simp at hu; subst hu; rfl
  · intro g cap w' hown' hgrow hloc _
    have hg2 : w.grownBy w' v.ownBlock := ⟨hgrow.os, hgrow.tape, hgrow.output, Nat.le_trans (by simp) hgrow.size, fun k hk hne => (hgrow.block k (by simp; omega) hne).trans (Below.heap_alloc w _ k hk)⟩
    refine h g cap w' ?_ (fun w0 hb => hb.grown hg2 hB (fun k hk => (World.ownsRow.lt hown k hk).1)) hg2 ?_
    · unfold OwnS
      rw [List.length_append, List.map_append]
      exact hown'
    · rcases hloc with h1 | h1
      · exact .inl h1.symm
      · right; rw [h1]; simp
theorem mkS_size (l : List UInt8) : (mkS l).size = l.length := by simp [mkS, ByteArray.size]
theorem mkS_cons (c : UInt8) (l : List UInt8) : (⟨#[c]⟩ : ByteArray) ++ mkS l = mkS (c :: l) := by
  apply ByteArray.ext; simp [mkS]
theorem mkS_of {s : ByteArray} {l : List UInt8} (h : s.data.toList = l) : s = mkS l := by
  subst h; apply ByteArray.ext; simp [mkS]
theorem small_range {c : UInt8} (h : smallI c.toNat = true) : 97 ≤ c.toNat ∧ c.toNat ≤ 122 := by
  simp only [smallI, Bool.and_eq_true, decide_eq_true_eq] at h; omega
theorem capB_toNat {c : UInt8} (h : smallI c.toNat = true) : (capB c).toNat = c.toNat - 32 := by
  have := small_range h
  unfold capB
  rw [UInt8.toNat_add, UInt8.toNat_sub_of_le _ _ (by rw [UInt8.le_iff_toNat_le]; exact this.1)]
  show (c.toNat - 97 + 65) % 256 = _
  omega
theorem take_map {α β : Type} (f : α → β) (l : List α) (j : Nat) (h : j < l.length) : (l.take (j + 1)).map f = (l.take j).map f ++ [f l[j]] := by
  rw [List.take_succ_eq_append_getElem h, List.map_append]; rfl
theorem ext1 (s : ByteArray) {n : Nat} (h : s.size = n + 1) (hp : 0 < s.size) : (s.extract 1 s.size).data.toList = s.data.toList.drop 1 ∧ (s.extract 1 s.size).size = n ∧ s.data.toList = s[0]'hp :: s.data.toList.drop 1 ∧ (s.extract 0 1).data.toList = [s[0]'hp] := by
  refine ⟨?_, by simp [ByteArray.size_extract]; omega, ?_, ?_⟩
  · rw [ByteArray.data_extract, Array.toList_extract, List.extract_eq_take_drop]
    rw [List.take_of_length_le (by simp)]
  · conv => lhs; rw [← List.drop_zero (l := s.data.toList), List.drop_eq_getElem_cons (show 0 < s.data.toList.length by simpa using (by omega : 0 < s.size))]
    rfl
  · rw [ByteArray.data_extract, Array.toList_extract, List.extract_eq_take_drop, List.drop_zero]
    rw [List.take_succ_eq_append_getElem (show 0 < s.data.toList.length by simpa using (by omega : 0 < s.size))]
    rfl
theorem ways_join (a : List UInt8) {l r : List UInt8} {c : UInt8} (h : l = c :: r) : (waysP a l).map mkS = (if (takeR a [63]).2.isEmpty then (waysP (takeR a [63]).1 r).map (fun x => mkS (capB c :: x)) else []) ++ (if (takeR a [c]).2.isEmpty then (waysP (takeR a [c]).1 r).map (fun x => mkS (c :: x)) else []) := by
  subst h
  rw [waysP, List.map_append]
  congr 1 <;> split <;> simp [Function.comp_def]
theorem ba_one {s : ByteArray} {c : UInt8} (h : s.data.toList = [c]) : s = ⟨#[c]⟩ := by
  apply ByteArray.ext; apply Array.ext'; exact h
theorem take_size (a : ByteArray) (b : List UInt8) (h : a.size ≤ 1048576) : (⟨(takeR a.data.toList b).1.toArray⟩ : ByteArray).size ≤ 1048576 := by
  have := (takeR_sub a.data.toList b).length_le
  have e : (⟨(takeR a.data.toList b).1.toArray⟩ : ByteArray).size = (takeR a.data.toList b).1.length := rfl
  have e2 : a.data.toList.length = a.size := Array.length_toList
  omega
theorem apart_low {v1 v2 : Value} {A B C D : Nat} (h1 : ∀ k, v1.ownBlock = some k → A ≤ k ∧ k < B) (h2 : ∀ k, v2.ownBlock = some k → C ≤ k ∧ k < D) (h : D ≤ A := by omega) : ∀ k, v1.ownBlock = some k → v2.ownBlock ≠ some k := fun k hk ho => by
  have := h1 k hk; have := h2 k ho; omega
theorem apart_next {w : World} {v : Value} {b1 gg n cap n' c' o : Nat} (hne : v.ownBlock ≠ some b1) (hloc : some gg = v.ownBlock ∨ w.heap.size ≤ gg) (hlt : b1 < w.heap.size) :
    ∀ k, (Value.slice (some ⟨b1, o, none⟩) n' c').ownBlock = some k → (Value.slice (some ⟨gg, 0, none⟩) n cap).ownBlock ≠ some k := fun k hk he => by
  have e1 : b1 = k := by simpa [Value.ownBlock] using hk
  have e2 : gg = k := by simpa [Value.ownBlock] using he
  subst e1
  subst e2
  rcases hloc with h | h
  · exact hne h.symm
  · omega
theorem ways_pack {A : List UInt8} {r : ByteArray} {w : World} {B : Nat} {v : Value} (h1 : Rises A) (h2 : tileAll A = true) (h3 : smallAll r.data.toList = true) (h4 : r.size ≤ 12)
    (h : OwnS w B v ((waysP (⟨A.toArray⟩ : ByteArray).data.toList r.data.toList).map mkS)) : ∃ R, R = waysP A r.data.toList ∧ R.length ≤ 4096 ∧ (∀ x ∈ R, x.length ≤ 12) ∧ OwnS w B v (R.map mkS) := by
  have hl : r.data.toList.length ≤ 12 := by rw [Array.length_toList]; exact h4
  refine ⟨_, rfl, ?_, fun x hx => ?_, h⟩
  · exact Nat.le_trans (waysP_len _ _ h1 h2 h3) (Nat.le_trans (Nat.pow_le_pow_right (by omega) hl) (by decide))
  · rw [waysP_eq _ _ h1 h2 h3] at hx
    rw [waysC_each _ _ x hx]; exact hl
theorem ways_cell {w : World} {B n c : Nat} {a : Option Addr} {R : List (List UInt8)} (h : OwnS w B (.slice a n c) (R.map mkS)) {j : Nat} (hj : j < R.length) : ∃ b off, a = some ⟨b, off, none⟩ ∧ w.cell? ⟨b, off + j, none⟩ = some (.string (mkS R[j])) := by
  obtain ⟨h1, a', c', e, -, -, h4⟩ := (own_SlW h).read
  injection e with e1 e2 e3
  subst e1
  obtain ⟨b, off, e, hc⟩ := h4 j (.string (mkS R[j])) (by simp [hj])
  exact ⟨b, off, e, hc⟩
theorem conv_b1 (c : UInt8) (w w2 : World) (h : w2.cell? ⟨w.heap.size, 0, none⟩ = some (.int .u8 c.toNat)) : (convert 30 9 (.slice (some ⟨w.heap.size, 0, none⟩) 1 1)).run Try.prog w2 = .ok (.string ⟨#[c]⟩) w2 := by
  refine run_convert_bytes_back _ _ _ 5 ⟨w.heap.size, 0, none⟩ 1 [c] Try.underlying30 Try.underlying5 Try.underlying9 ?_
  intro j hj
  have hj0 : j = 0 := by simpa using hj
  subst hj0
  simpa [Addr.add] using h
attribute [local irreducible] Calls
set_option maxHeartbeats 8000000 in
set_option maxRecDepth 20000 in
theorem l03Ways_any : ∀ (n : Nat) (a s : ByteArray) (w : World), s.size = n → n ≤ 12 → Rises a.data.toList → tileAll a.data.toList = true → a.size ≤ 1048576 → smallAll s.data.toList = true →
    Calls Try.prog 35 #[.string a, .string s] w fun e w' => ∃ v, e = .returned v ∧ OwnS w' w.heap.size v ((waysP a.data.toList s.data.toList).map mkS) ∧ Below w.heap.size w w' := by
  intro n
  induction n with
  | zero =>
    intro a s w hs _ _ _ _ _
    obtain rfl := size_zero hs
    clear hs
    go_enter Try.func35, Try.ntmps35
    go_wp2
    go_ret
    refine ⟨_, rfl, ⟨rfl, .inr ⟨w.heap.size, 1, _, rfl, Nat.le_refl _, heap_alloc_new w _, Nat.le_refl _, by unfold maxLen; omega, rfl, rfl⟩⟩, (Below.refl _ _).alloc (Nat.le_refl _) _⟩
  | succ n ih =>
    intro a s w hs hn hri hti hal hsm
    have hpos : 0 < s.size := by omega
    have hemp := isEmpty_false hpos
    obtain ⟨hx1, hx2, hx3, hx4⟩ := ext1 s hs hpos
    obtain ⟨hc, hsm2⟩ := smallAll_tail (hx3 ▸ hsm)
    have Hsm2 := Lib.hid (show smallAll (s.extract 1 s.size).data.toList = true by rw [hx1]; exact hsm2)
    have Hx1 := Lib.hid hx1; have Hx2 := Lib.hid hx2; have Hx3 := Lib.hid hx3; have Hx4 := Lib.hid hx4
    have Hri := Lib.hid hri; have Hti := Lib.hid hti
    have hmax : s.size ≤ 12 := by omega
    have hcr := small_range hc
    have Hcap := Lib.hid (capB_toNat hc)
    have hcap2 := Hcap.out
    have Ih := Lib.hid ih
    have hs1 : (1 : Int) ≤ (s.size : Int) := by omega
    have Hs := Lib.hid hs
    have hn2 : n ≤ 12 := by omega
    clear hx1 hx2 hx3 hx4 hsm2 hsm hs hri hti ih hn
    go_enter Try.func35, Try.ntmps35
    go_wp2_with fail
    have hb0 : Below w.heap.size w (w.alloc (.cells #[] 9)) := (Below.refl _ _).alloc (Nat.le_refl _) _
    have hO0 := OwnS.made w w.heap.size (Nat.le_refl _)
    refine (l03Take_any a ⟨#[63]⟩ _ hal (by decide)).mono ?_
    rintro e w1 ⟨rfl, hb1⟩
    have HB1 := Lib.hid (hb0.trans (hb1.mono hb0.size))
    have HO1 := Lib.hid (hO0.below hb1)
    clear hb0 hO0 hb1
    have e63 : (⟨#[63]⟩ : ByteArray).data.toList = [63] := rfl
    rw [e63]
    clear e63
    have Hx5 := Lib.hid (ba_one Hx4.out)
    cases hok : (takeR a.data.toList [63]).2.isEmpty
    · have Hok := Lib.hid hok
      have HOz := HO1
      have HBz := HB1
      clear hok HO1 HB1
      go_wp2_with fail
      refine (l03Take_any a (s.extract 0 1) _ hal (by rw [Hx5.out]; show (1 : Nat) ≤ 1048576; decide)).mono ?_
      rintro e w1 ⟨rfl, hb1⟩
      have HO1 := Lib.hid (HOz.out.below hb1)
      have HB1 := Lib.hid (HBz.out.trans (hb1.mono HBz.out.size))
      clear hb1 HOz HBz
      rw [Hx4.out]
      cases hok : (takeR a.data.toList [s[0]]).2.isEmpty
      · have Hok2 := Lib.hid hok
        clear hok
        go_wp2
        go_ret
        exact ⟨_, rfl, by rw [ways_join _ Hx3.out, ← Hx1.out, Hok.out, if_neg (by decide), Hok2.out]; simpa using HO1.out, HB1.out⟩
      · have Hok2 := Lib.hid hok
        clear hok
        go_wp2_with fail
        refine (Ih.out _ (s.extract 1 s.size) _ Hx2.out hn2 (rises_sub (takeR_sub _ _) Hri.out) (tiles_sub (takeR_sub _ _) Hti.out) (take_size a _ hal) Hsm2.out).mono ?_
        rintro e w2y ⟨vr, rfl, hR, hb2⟩
        obtain ⟨Ry, hRR, hRl, hRe, hR⟩ := ways_pack (r := s.extract 1 s.size) (rises_sub (takeR_sub _ _) Hri.out) (tiles_sub (takeR_sub _ _) Hti.out) Hsm2.out (by have := Hx2.out; omega) hR
        have hap := World.ownsRow.lt hR
        have hao := World.ownsRow.lt HO1.out
        have HO2 := Lib.hid (HO1.out.below hb2)
        have HB2 := Lib.hid (HB1.out.trans (hb2.mono HB1.out.size))
        have hz1 := HB1.out.size
        have hz2 := hb2.size
        obtain ⟨ra, rc, rfl, hrl, hrc⟩ := hR.shape
        unfold maxLen at hrc
        have hap0 := apart_low hap hao
        have hRn : (Ry.map mkS).length = Ry.length := List.length_map ..
        rw [hRn] at hR hap0 hrl ⊢
        have HR2 := Lib.hid hR
        have Hap2 := Lib.hid hap0
        have HRRy := Lib.hid hRR
        have HRe := Lib.hid hRe
        clear hRR hRe hR hap hao hap0 hb2
        go_wp2
        go_loopw [5, 12] (fun v i wr => ∃ j : Nat, j ≤ Ry.length ∧ i = .int .i64 (j : Int) ∧ OwnS wr w.heap.size v (([] : List ByteArray) ++ (Ry.take j).map fun x => mkS (s[0] :: x)) ∧ OwnS wr w1.heap.size (.slice ra Ry.length rc) (Ry.map mkS) ∧ (∀ k, (Value.slice ra Ry.length rc).ownBlock = some k → v.ownBlock ≠ some k) ∧ Below w.heap.size w wr ∧ w1.heap.size ≤ wr.heap.size) (fun _ i _ => Ry.length - (intOf i).toNat)
        case atStart => exact ⟨0, by omega, rfl, by simpa using HO2.out, HR2.out, Hap2.out, HB2.out, hz2⟩
        case round =>
          clear hz2 hz1
          obtain ⟨j, hj, rfl, hown, hR, hap, hb, hzr⟩ := hrel
          have HB := Lib.hid hb
          have hbs := hb.size
          have HO := Lib.hid hown
          have HR := Lib.hid hR
          have Hap := Lib.hid hap
          clear hb hown hap
          by_cases hlt : j < Ry.length
          · obtain ⟨b1, o1, rfl, hc1⟩ := ways_cell hR hlt
            obtain ⟨r, hr⟩ : ∃ r, r = mkS Ry[j] := ⟨_, rfl⟩
            rw [← hr] at hc1
            have hrs : r.size ≤ 12 := by rw [hr, mkS_size]; exact HRe.out _ (List.getElem_mem hlt)
            have Hr := Lib.hid hr
            have hlen : (([] : List ByteArray) ++ (Ry.take j).map fun x => mkS (s[0] :: x)).length ≤ 4398046511104 := by simp; omega
            obtain ⟨Lj, hLj⟩ : ∃ Lj, Lj = (([] : List ByteArray) ++ (Ry.take j).map fun x => mkS (s[0] :: x)) := ⟨_, rfl⟩
            rw [← hLj] at hlen
            have HLj := Lib.hid hLj
            have HO := Lib.hid (hLj ▸ HO.out)
            have hjI : (j : Int) < (Ry.length : Int) := by omega
            have hj0 : (0 : Int) ≤ (j : Int) := by omega
            have hsum : (9223372036854775807 < 1 + r.size) = False := by rw [eq_iff_iff, iff_false]; omega
            have hsz1 : (s.extract 0 1).size = 1 := by rw [Hx5.out]; rfl
            have hbW : Below wr.heap.size wr wr.drew := (Below.refl _ _).drew
            have HOW := Lib.hid (HO.out.below hbW)
            have HHx := Lib.hid (show Value.slice (some ⟨wr.heap.size, 0, none⟩) 1 1 = .slice (some ⟨(wr.drew).heap.size, 0, none⟩) 1 1 by simp)
            have hBW : w.heap.size ≤ (wr.drew).heap.size := Nat.le_trans hbs hbW.size
            have HcW := Lib.hid (cell_below hbW hc1)
            have Hne := Lib.hid (Hap.out b1 (by simp [Value.ownBlock]))
            clear hr hR hLj
            go_wp2
            go_region_held3 (fun w' => w'.cell? ⟨b1, o1 + j, none⟩ = some (.string r))
              (first | exact hc1 | exact cell_alloc _ hc1 | exact cell_alloc _ (cell_alloc _ hc1) | exact (hgr.cell_far _ (cell_lt HcW.out) (fun e => Hne.out e.symm)).trans HcW.out)
              (first
                | (refine step_str_at (w := wr.drew) ?_ (.tmp 66) (.tmp 74) ?_ w.heap.size _ Lj ?_ HOW.out ((s.extract 0 1) ++ r) ?_ hlen hBW ?_; rfl; rfl; rfl; exact HHx.out; intro gg cap w4 hown4 hbel4 hgr hloc)
                | fail)
            clear hsum hjI hj0
            have hfin : ([] : List ByteArray) ++ (Ry.take (j + 1)).map (fun x => mkS (s[0] :: x)) = Lj ++ [(s.extract 0 1) ++ r] := by rw [take_map _ Ry j hlt, ← List.append_assoc, ← HLj.out, Hx5.out, Hr.out, mkS_cons]
            have HF := Lib.hid (hfin ▸ hown4)
            have HB4 := Lib.hid (hbel4 _ (HB.out.trans (hbW.mono hbs)))
            have HR4 := Lib.hid (World.ownsRow.kept (HR.out.below hbW) hgr (.inr (by simp only [Value.ownBlock]; exact fun e => Hne.out e.symm)))
            have Hap4 := Lib.hid (apart_next (n := Lj.length + 1) (cap := cap) (n' := Ry.length) (c' := rc) (o := o1) Hne.out hloc (Nat.lt_of_lt_of_le (cell_lt hc1) hbW.size))
            have hz4 : w1.heap.size ≤ w4.heap.size := Nat.le_trans hzr (Nat.le_trans hbW.size hgr.size)
            clear hfin hown4 hbel4 hgr hloc hbW
            go_wp2
            go_roundw
            case rel => exact ⟨j + 1, by omega, by go_num, HF.out, HR4.out, Hap4.out, HB4.out, hz4⟩
            case measure => simp [intOf]; omega
          · obtain rfl : j = Ry.length := by omega
            have HOy := Lib.hid (show OwnS wr w.heap.size _ (([] : List ByteArray) ++ Ry.map fun x => mkS (s[0] :: x)) by have := HO.out; rwa [List.take_length] at this)
            have HBy := Lib.hid HB.out
            clear hR HO Hap HR HO2 HR2 Hap2 hzr hbs hj hlt HB
            go_wp2
            go_ret
            exact ⟨_, rfl, by rw [ways_join _ Hx3.out, ← Hx1.out, Hok.out, if_neg (by decide), Hok2.out, if_pos rfl, ← HRRy.out]; exact HOy.out, HBy.out⟩
    · have Hok := Lib.hid hok
      clear hok
      go_wp2_with fail
      refine (Ih.out _ (s.extract 1 s.size) _ Hx2.out hn2 (rises_sub (takeR_sub _ _) Hri.out) (tiles_sub (takeR_sub _ _) Hti.out) (take_size a _ hal) Hsm2.out).mono ?_
      rintro e w2x ⟨vr, rfl, hR, hb2⟩
      obtain ⟨Rx, hRR, hRl, hRe, hR⟩ := ways_pack (r := s.extract 1 s.size) (rises_sub (takeR_sub _ _) Hri.out) (tiles_sub (takeR_sub _ _) Hti.out) Hsm2.out (by have := Hx2.out; omega) hR
      have hap := World.ownsRow.lt hR
      have hao := World.ownsRow.lt HO1.out
      have HO2 := Lib.hid (HO1.out.below hb2)
      have HB2 := Lib.hid (HB1.out.trans (hb2.mono HB1.out.size))
      have hz1 := HB1.out.size
      have hz2 := hb2.size
      obtain ⟨ra, rc, rfl, hrl, hrc⟩ := hR.shape
      unfold maxLen at hrc
      have hap0 := apart_low hap hao
      have hRn : (Rx.map mkS).length = Rx.length := List.length_map ..
      rw [hRn] at hR hap0 hrl ⊢
      have HR2 := Lib.hid hR
      have Hap2 := Lib.hid hap0
      have HRRx := Lib.hid hRR
      have HRe := Lib.hid hRe
      clear hRR hRe hR hap hao hap0 hb2
      go_wp2
      go_loopw [5, 10] (fun v i wr => ∃ j : Nat, j ≤ Rx.length ∧ i = .int .i64 (j : Int) ∧ OwnS wr w.heap.size v (([] : List ByteArray) ++ (Rx.take j).map fun x => mkS (capB s[0] :: x)) ∧ OwnS wr w1.heap.size (.slice ra Rx.length rc) (Rx.map mkS) ∧ (∀ k, (Value.slice ra Rx.length rc).ownBlock = some k → v.ownBlock ≠ some k) ∧ Below w.heap.size w wr ∧ w1.heap.size ≤ wr.heap.size) (fun _ i _ => Rx.length - (intOf i).toNat)
      case atStart => exact ⟨0, by omega, rfl, by simpa using HO2.out, HR2.out, Hap2.out, HB2.out, hz2⟩
      case round =>
        clear hz2 hz1
        obtain ⟨j, hj, rfl, hown, hR, hap, hb, hzr⟩ := hrel
        have HB := Lib.hid hb
        have hbs := hb.size
        have HO := Lib.hid hown
        have HR := Lib.hid hR
        have Hap := Lib.hid hap
        clear hb hown hap
        by_cases hlt : j < Rx.length
        · obtain ⟨b1, o1, rfl, hc1⟩ := ways_cell hR hlt
          obtain ⟨r, hr⟩ : ∃ r, r = mkS Rx[j] := ⟨_, rfl⟩
          rw [← hr] at hc1
          have hrs : r.size ≤ 12 := by rw [hr, mkS_size]; exact HRe.out _ (List.getElem_mem hlt)
          have Hr := Lib.hid hr
          have hlen : (([] : List ByteArray) ++ (Rx.take j).map fun x => mkS (capB s[0] :: x)).length ≤ 4398046511104 := by simp; omega
          obtain ⟨Lj, hLj⟩ : ∃ Lj, Lj = (([] : List ByteArray) ++ (Rx.take j).map fun x => mkS (capB s[0] :: x)) := ⟨_, rfl⟩
          rw [← hLj] at hlen
          have HLj := Lib.hid hLj
          have HO := Lib.hid (hLj ▸ HO.out)
          have hjI : (j : Int) < (Rx.length : Int) := by omega
          have hj0 : (0 : Int) ≤ (j : Int) := by omega
          have hsum : (9223372036854775807 < 1 + r.size) = False := by rw [eq_iff_iff, iff_false]; omega
          obtain ⟨cc, hcc⟩ : ∃ cc, cc = capB s[0] := ⟨_, rfl⟩
          rw [← hcc] at hcap2
          have Hcc := Lib.hid hcc
          have hw1 : IntKind.u8.wrap ((s[0].toNat : Int) - 97) = (s[0].toNat : Int) - 97 := IntWalk.u8_in _ (by omega)
          have hw2 : IntKind.u8.wrap ((s[0].toNat : Int) - 97 + 65) = (cc.toNat : Int) := by rw [hcap2, IntWalk.u8_in _ (by omega)]; omega
          have hcv1 := conv_b1 cc wr (wr.drew.alloc (.cells #[.int .u8 cc.toNat] 5)) (cell_newi wr.drew _ _ 0 _ rfl)
          have hcv2 := conv_b1 cc wr ((wr.alloc (.cells #[.int .u8 cc.toNat] 5)).drew) (cell_newi wr _ _ 0 _ rfl)
          clear hcc hcap2
          have hbW : Below wr.heap.size wr ((wr.alloc (.cells #[.int .u8 cc.toNat] 5)).drew) := ((Below.refl _ _).alloc (Nat.le_refl _) _).drew
          have HOW := Lib.hid (HO.out.below hbW)
          have HHx := Lib.hid (show Value.slice (some ⟨wr.heap.size + 1, 0, none⟩) 1 1 = .slice (some ⟨(((wr.alloc (.cells #[.int .u8 cc.toNat] 5)).drew)).heap.size, 0, none⟩) 1 1 by simp)
          have hBW : w.heap.size ≤ (((wr.alloc (.cells #[.int .u8 cc.toNat] 5)).drew)).heap.size := Nat.le_trans hbs hbW.size
          have HcW := Lib.hid (cell_below hbW hc1)
          have Hne := Lib.hid (Hap.out b1 (by simp [Value.ownBlock]))
          clear hr hR hLj
          go_wp2
          refine wp_region_held_drew (S := (fun w' => w'.cell? ⟨b1, o1 + j, none⟩ = some (.string r))) (by kernel_rfl) ?_ (fun hHeld => ?_)
          · exact hc1
          refine wpAnyH_take (i := 0) (v := ?v1) rfl (by kernel_rfl) (by kernel_rfl) (by kernel_rfl) (fun _ _ _ h => h) (Or.inl ⟨rfl, ?hy1⟩) (by assumption) ?_
          case hy1 => (intro w9 hS9; (try dsimp only at hS9); go_simp; (try with_reducible rfl))
          try simp only [Act.put, List.setIfInBounds_toArray, List.set_cons_zero, List.set_cons_succ]
          refine wpAnyH_take (i := 1) (v := ?v2) rfl (by kernel_rfl) (by kernel_rfl) (by kernel_rfl) (fun _ _ _ h => h) (Or.inl ⟨rfl, ?hy2⟩) (by assumption) ?_
          case hy2 => (intro w9 hS9; (try dsimp only at hS9); go_simp; (try with_reducible rfl))
          try simp only [Act.put, List.setIfInBounds_toArray, List.set_cons_zero, List.set_cons_succ]
          refine wpAnyH_take (i := 2) (v := ?v3) rfl (by kernel_rfl) (by kernel_rfl) (by kernel_rfl) (fun _ _ _ h => h) (Or.inl ⟨rfl, ?hy3⟩) (by assumption) ?_
          case hy3 => (intro w9 hS9; (try dsimp only at hS9); go_simp; (try with_reducible rfl))
          try simp only [Act.put, List.setIfInBounds_toArray, List.set_cons_zero, List.set_cons_succ]
          refine wpAnyH_take (i := 3) (v := ?v4) rfl (by kernel_rfl) (by kernel_rfl) (by kernel_rfl) (fun _ _ _ h => h) (Or.inl ⟨rfl, ?hy4⟩) (by assumption) ?_
          case hy4 => (intro w9 hS9; (try dsimp only at hS9); go_simp; (try with_reducible rfl))
          try simp only [Act.put, List.setIfInBounds_toArray, List.set_cons_zero, List.set_cons_succ]
          refine wpAnyH_take (i := 6) (v := ?v5) rfl (by kernel_rfl) (by kernel_rfl) (by kernel_rfl) (fun _ _ _ h => h) (Or.inl ⟨rfl, ?hy5⟩) (by assumption) ?_
          case hy5 => (intro w9 hS9; (try dsimp only at hS9); go_simp; (try with_reducible rfl))
          try simp only [Act.put, List.setIfInBounds_toArray, List.set_cons_zero, List.set_cons_succ]
          refine wpAnyH_take (i := 7) (v := ?v6) rfl (by kernel_rfl) (by kernel_rfl) (by kernel_rfl) (fun _ _ _ h => h) (Or.inl ⟨rfl, ?hy6⟩) (by assumption) ?_
          case hy6 => (intro w9 hS9; (try dsimp only at hS9); go_simp; (try with_reducible rfl))
          try simp only [Act.put, List.setIfInBounds_toArray, List.set_cons_zero, List.set_cons_succ]
          refine wpAnyH_take (i := 8) (v := ?v7) rfl (by kernel_rfl) (by kernel_rfl) (by kernel_rfl) (fun _ _ _ h => h) (Or.inl ⟨rfl, ?hy7⟩) (by assumption) ?_
          case hy7 => (intro w9 hS9; (try dsimp only at hS9); go_simp; (try with_reducible rfl))
          try simp only [Act.put, List.setIfInBounds_toArray, List.set_cons_zero, List.set_cons_succ]
          refine wpAnyH_take (i := 9) (v := ?v8) rfl (by kernel_rfl) (by kernel_rfl) (by kernel_rfl) (fun _ _ _ h => h) (Or.inl ⟨rfl, ?hy8⟩) (by assumption) ?_
          case hy8 => (intro w9 hS9; (try dsimp only at hS9); go_simp; (try with_reducible rfl))
          try simp only [Act.put, List.setIfInBounds_toArray, List.set_cons_zero, List.set_cons_succ]
          refine wpAnyH_ready (rs := [4]) (by kernel_rfl) (by simp) ?_
          refine AllReadyH.cons rfl (fun K9 hK9 => ?_) AllReadyH.nil
          rw [if_pos (by rfl)]
          go_simp
          refine hK9.out _ _ (cell_alloc _ hHeld) (fun hHeld2 => ?_)
          clear hK9 K9
          try simp only [Act.put, List.setIfInBounds_toArray, List.set_cons_zero, List.set_cons_succ]
          refine wpAnyH_ready (rs := [5]) (by kernel_rfl) (by simp) ?_
          refine AllReadyH.cons rfl (fun K9 hK9 => ?_) AllReadyH.nil
          rw [if_pos (by rfl)]
          go_simp
          refine hK9.out _ _ (hHeld2) (fun hHeld3 => ?_)
          clear hK9 K9
          try simp only [Act.put, List.setIfInBounds_toArray, List.set_cons_zero, List.set_cons_succ]
          refine wpAnyH_take (i := 10) (v := ?v9) rfl (by kernel_rfl) (by kernel_rfl) (by kernel_rfl) (fun _ _ _ h => h) (Or.inl ⟨rfl, ?hy9⟩) (by assumption) ?_
          case hy9 => (intro w9 hS9; (try dsimp only at hS9); go_simp; (try with_reducible rfl))
          try simp only [Act.put, List.setIfInBounds_toArray, List.set_cons_zero, List.set_cons_succ]
          refine wpAnyH_ready (rs := [11]) (by kernel_rfl) (by simp) ?_
          refine AllReadyH.cons rfl (fun K9 hK9 => ?_) AllReadyH.nil
          rw [if_pos (by rfl)]
          go_simp
          refine hK9.out _ _ (cell_alloc _ hHeld3) (fun hHeld4 => ?_)
          clear hK9 K9
          try simp only [Act.put, List.setIfInBounds_toArray, List.set_cons_zero, List.set_cons_succ]
          refine wpAnyH_ready (rs := [12]) (by kernel_rfl) (by simp) ?_
          refine AllReadyH.cons rfl (fun K9 hK9 => ?_) AllReadyH.nil
          refine step_str_at (w := ((wr.alloc (.cells #[.int .u8 cc.toNat] 5)).drew)) ?_ (.tmp 35) (.tmp 46) ?_ w.heap.size _ Lj ?_ HOW.out ((⟨#[cc]⟩ : ByteArray) ++ r) ?_ hlen hBW ?_
          rfl; rfl; rfl; exact HHx.out; intro gg cap w4 hown4 hbel4 hgr hloc
          refine hK9.out _ _ ((hgr.cell_far _ (cell_lt HcW.out) (fun e => Hne.out e.symm)).trans HcW.out) (fun hHeld5 => ?_)
          clear hK9 K9
          try simp only [Act.put, List.setIfInBounds_toArray, List.set_cons_zero, List.set_cons_succ]
          refine wpAnyH_take (i := 13) (v := ?v10) rfl (by kernel_rfl) (by kernel_rfl) (by kernel_rfl) (fun _ _ _ h => h) (Or.inl ⟨rfl, ?hy10⟩) (by assumption) ?_
          case hy10 => (intro w9 hS9; (try dsimp only at hS9); go_simp; (try with_reducible rfl))
          try simp only [Act.put, List.setIfInBounds_toArray, List.set_cons_zero, List.set_cons_succ]
          refine wpAnyH_done (by kernel_rfl) ?_ _
          clear hsum hjI hj0
          have hfin : ([] : List ByteArray) ++ (Rx.take (j + 1)).map (fun x => mkS (capB s[0] :: x)) = Lj ++ [(⟨#[cc]⟩ : ByteArray) ++ r] := by rw [take_map _ Rx j hlt, ← List.append_assoc, ← HLj.out, Hcc.out, Hr.out, mkS_cons]
          have HF := Lib.hid (hfin ▸ hown4)
          have HB4 := Lib.hid (hbel4 _ (HB.out.trans (hbW.mono hbs)))
          have HR4 := Lib.hid (World.ownsRow.kept (HR.out.below hbW) hgr (.inr (by simp only [Value.ownBlock]; exact fun e => Hne.out e.symm)))
          have Hap4 := Lib.hid (apart_next (n := Lj.length + 1) (cap := cap) (n' := Rx.length) (c' := rc) (o := o1) Hne.out hloc (Nat.lt_of_lt_of_le (cell_lt hc1) hbW.size))
          have hz4 : w1.heap.size ≤ w4.heap.size := Nat.le_trans hzr (Nat.le_trans hbW.size hgr.size)
          clear hfin hown4 hbel4 hgr hloc hbW
          go_wp2
          go_roundw
          case rel => exact ⟨j + 1, by omega, by go_num, HF.out, HR4.out, Hap4.out, HB4.out, hz4⟩
          case measure => simp [intOf]; omega
        · obtain rfl : j = Rx.length := by omega
          have HOx := Lib.hid (show OwnS wr w.heap.size _ (([] : List ByteArray) ++ Rx.map fun x => mkS (capB s[0] :: x)) by have := HO.out; rwa [List.take_length] at this)
          have HBx := Lib.hid HB.out
          clear hR HO Hap HR HO2 HR2 Hap2 hzr hbs hj hlt HB
          clear HO1 HB1 HB2
          obtain ⟨wz, rfl⟩ : ∃ wz : World, wz = wr := ⟨_, rfl⟩
          go_wp2_with fail
          refine (l03Take_any a (s.extract 0 1) _ hal (by rw [Hx5.out]; show (1 : Nat) ≤ 1048576; decide)).mono ?_
          rintro e w1 ⟨rfl, hb1⟩
          have HO1 := Lib.hid (HOx.out.below hb1)
          have HB1 := Lib.hid (HBx.out.trans (hb1.mono HBx.out.size))
          clear hb1 HOx HBx
          rw [Hx4.out]
          cases hok : (takeR a.data.toList [s[0]]).2.isEmpty
          · have Hok2 := Lib.hid hok
            clear hok
            go_wp2
            go_ret
            exact ⟨_, rfl, by rw [ways_join _ Hx3.out, ← Hx1.out, Hok.out, if_pos rfl, ← HRRx.out, Hok2.out]; simpa using HO1.out, HB1.out⟩
          · have Hok2 := Lib.hid hok
            clear hok
            go_wp2_with fail
            refine (Ih.out _ (s.extract 1 s.size) _ Hx2.out hn2 (rises_sub (takeR_sub _ _) Hri.out) (tiles_sub (takeR_sub _ _) Hti.out) (take_size a _ hal) Hsm2.out).mono ?_
            rintro e w2y ⟨vr, rfl, hR, hb2⟩
            obtain ⟨Ry, hRR, hRl, hRe, hR⟩ := ways_pack (r := s.extract 1 s.size) (rises_sub (takeR_sub _ _) Hri.out) (tiles_sub (takeR_sub _ _) Hti.out) Hsm2.out (by have := Hx2.out; omega) hR
            have hap := World.ownsRow.lt hR
            have hao := World.ownsRow.lt HO1.out
            have HO2 := Lib.hid (HO1.out.below hb2)
            have HB2 := Lib.hid (HB1.out.trans (hb2.mono HB1.out.size))
            have hz1 := HB1.out.size
            have hz2 := hb2.size
            obtain ⟨ra, rc, rfl, hrl, hrc⟩ := hR.shape
            unfold maxLen at hrc
            have hap0 := apart_low hap hao
            have hRn : (Ry.map mkS).length = Ry.length := List.length_map ..
            rw [hRn] at hR hap0 hrl ⊢
            have HR2 := Lib.hid hR
            have Hap2 := Lib.hid hap0
            have HRRy := Lib.hid hRR
            have HRe := Lib.hid hRe
            clear hRR hRe hR hap hao hap0 hb2
            go_wp2
            go_loopw [5, 12] (fun v i wr => ∃ j : Nat, j ≤ Ry.length ∧ i = .int .i64 (j : Int) ∧ OwnS wr w.heap.size v ((([] : List ByteArray) ++ Rx.map fun x => mkS (capB s[0] :: x)) ++ (Ry.take j).map fun x => mkS (s[0] :: x)) ∧ OwnS wr w1.heap.size (.slice ra Ry.length rc) (Ry.map mkS) ∧ (∀ k, (Value.slice ra Ry.length rc).ownBlock = some k → v.ownBlock ≠ some k) ∧ Below w.heap.size w wr ∧ w1.heap.size ≤ wr.heap.size) (fun _ i _ => Ry.length - (intOf i).toNat)
            case atStart => exact ⟨0, by omega, rfl, by simpa using HO2.out, HR2.out, Hap2.out, HB2.out, hz2⟩
            case round =>
              clear hz2 hz1
              obtain ⟨j, hj, rfl, hown, hR, hap, hb, hzr⟩ := hrel
              have HB := Lib.hid hb
              have hbs := hb.size
              have HO := Lib.hid hown
              have HR := Lib.hid hR
              have Hap := Lib.hid hap
              clear hb hown hap
              by_cases hlt : j < Ry.length
              · obtain ⟨b1, o1, rfl, hc1⟩ := ways_cell hR hlt
                obtain ⟨r, hr⟩ : ∃ r, r = mkS Ry[j] := ⟨_, rfl⟩
                rw [← hr] at hc1
                have hrs : r.size ≤ 12 := by rw [hr, mkS_size]; exact HRe.out _ (List.getElem_mem hlt)
                have Hr := Lib.hid hr
                have hlen : ((([] : List ByteArray) ++ Rx.map fun x => mkS (capB s[0] :: x)) ++ (Ry.take j).map fun x => mkS (s[0] :: x)).length ≤ 4398046511104 := by simp; omega
                obtain ⟨Lj, hLj⟩ : ∃ Lj, Lj = ((([] : List ByteArray) ++ Rx.map fun x => mkS (capB s[0] :: x)) ++ (Ry.take j).map fun x => mkS (s[0] :: x)) := ⟨_, rfl⟩
                rw [← hLj] at hlen
                have HLj := Lib.hid hLj
                have HO := Lib.hid (hLj ▸ HO.out)
                have hjI : (j : Int) < (Ry.length : Int) := by omega
                have hj0 : (0 : Int) ≤ (j : Int) := by omega
                have hsum : (9223372036854775807 < 1 + r.size) = False := by rw [eq_iff_iff, iff_false]; omega
                have hsz1 : (s.extract 0 1).size = 1 := by rw [Hx5.out]; rfl
                have hbW : Below wr.heap.size wr wr.drew := (Below.refl _ _).drew
                have HOW := Lib.hid (HO.out.below hbW)
                have HHx := Lib.hid (show Value.slice (some ⟨wr.heap.size, 0, none⟩) 1 1 = .slice (some ⟨(wr.drew).heap.size, 0, none⟩) 1 1 by simp)
                have hBW : w.heap.size ≤ (wr.drew).heap.size := Nat.le_trans hbs hbW.size
                have HcW := Lib.hid (cell_below hbW hc1)
                have Hne := Lib.hid (Hap.out b1 (by simp [Value.ownBlock]))
                clear hr hR hLj
                go_wp2
                go_region_held3 (fun w' => w'.cell? ⟨b1, o1 + j, none⟩ = some (.string r))
                  (first | exact hc1 | exact cell_alloc _ hc1 | exact cell_alloc _ (cell_alloc _ hc1) | exact (hgr.cell_far _ (cell_lt HcW.out) (fun e => Hne.out e.symm)).trans HcW.out)
                  (first
                    | (refine step_str_at (w := wr.drew) ?_ (.tmp 66) (.tmp 74) ?_ w.heap.size _ Lj ?_ HOW.out ((s.extract 0 1) ++ r) ?_ hlen hBW ?_; rfl; rfl; rfl; exact HHx.out; intro gg cap w4 hown4 hbel4 hgr hloc)
                    | fail)
                clear hsum hjI hj0
                have hfin : (([] : List ByteArray) ++ Rx.map fun x => mkS (capB s[0] :: x)) ++ (Ry.take (j + 1)).map (fun x => mkS (s[0] :: x)) = Lj ++ [(s.extract 0 1) ++ r] := by rw [take_map _ Ry j hlt, ← List.append_assoc, ← HLj.out, Hx5.out, Hr.out, mkS_cons]
                have HF := Lib.hid (hfin ▸ hown4)
                have HB4 := Lib.hid (hbel4 _ (HB.out.trans (hbW.mono hbs)))
                have HR4 := Lib.hid (World.ownsRow.kept (HR.out.below hbW) hgr (.inr (by simp only [Value.ownBlock]; exact fun e => Hne.out e.symm)))
                have Hap4 := Lib.hid (apart_next (n := Lj.length + 1) (cap := cap) (n' := Ry.length) (c' := rc) (o := o1) Hne.out hloc (Nat.lt_of_lt_of_le (cell_lt hc1) hbW.size))
                have hz4 : w1.heap.size ≤ w4.heap.size := Nat.le_trans hzr (Nat.le_trans hbW.size hgr.size)
                clear hfin hown4 hbel4 hgr hloc hbW
                go_wp2
                go_roundw
                case rel => exact ⟨j + 1, by omega, by go_num, HF.out, HR4.out, Hap4.out, HB4.out, hz4⟩
                case measure => simp [intOf]; omega
              · obtain rfl : j = Ry.length := by omega
                have HOy := Lib.hid (show OwnS wr w.heap.size _ ((([] : List ByteArray) ++ Rx.map fun x => mkS (capB s[0] :: x)) ++ Ry.map fun x => mkS (s[0] :: x)) by have := HO.out; rwa [List.take_length] at this)
                have HBy := Lib.hid HB.out
                clear hR HO Hap HR HO2 HR2 Hap2 hzr hbs hj hlt HB
                go_wp2
                go_ret
                exact ⟨_, rfl, by rw [ways_join _ Hx3.out, ← Hx1.out, Hok.out, if_pos rfl, ← HRRx.out, Hok2.out, if_pos rfl, ← HRRy.out]; exact HOy.out, HBy.out⟩
end Go.Proofs.Ythpjinfkagllfaa

