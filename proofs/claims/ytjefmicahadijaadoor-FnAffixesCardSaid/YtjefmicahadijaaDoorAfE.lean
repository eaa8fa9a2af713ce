/- FnAffixes: the drawn affix and word; what DrawUndoAffix gives. Condition: at most 4096 bytes. -/
import Derived.Test.YtjefmicahadijaaDoorAfD
import Derived.Test.YtjefmicahadijaaDoorBy
namespace Go.Proofs.YtjefmicahadijaaDoor
open Go.RowKit
attribute [local irreducible] Calls
set_option maxHeartbeats 8000000 in
set_option maxRecDepth 20000 in
theorem l04Both_any (g : Nat) (bs : List UInt8) (k : Nat) (w : World) (hs : SrcW w g bs k) (hk : k ≤ 90000) :
    Calls Tryd.prog 54 #[.pointer (some ⟨g, 0, none⟩)] w fun e w' => ∃ (x : AffD) (s : ByteArray) (k' : Nat), e = .returned (.tuple #[.agg #[.string x.name, .bool x.front, .string x.cond, .string x.strip, .string x.add], .string s]) ∧ AffLim x 20 ∧ s.size ≤ 20 ∧ k' ≤ k + 20 ∧ SrcW w' g bs k' ∧ Kept g (g + 1) w w' := by
  have hgl := hs.lt
  have hb0 : Below w.heap.size w (w.alloc (.cells affNil 26)) := (Below.refl _ _).alloc (Nat.le_refl _) _
  have HB0 := Lib.hid hb0
  have rA := heap_alloc_new w (.cells affNil 26)
  go_enter Tryd.func54, Tryd.ntmps54
  go_wp2_with fail
  refine (bentAffix_any g bs k _ (hs.below hb0) (by omega)).mono ?_
  rintro e w1 ⟨x, k1, rfl, hx, hk1, hs1, hkk1⟩
  have hkk1 : Kept g (g + 1) (w.alloc (.cells affNil 26)) w1 := hkk1
  have hz1 : w.heap.size + 1 ≤ w1.heap.size := by have := hkk1.size; simpa using this
  have hres := (hkk1.block w.heap.size (by simp) (.inr (by omega))).trans rA
  have hb1 : Below w1.heap.size w1 (w1.alloc (.cells (affV x) 26)) := (Below.refl _ _).alloc (Nat.le_refl _) _
  have HB1 := Lib.hid hb1
  have rB := heap_alloc_new w1 (.cells (affV x) 26)
  have K1 := Lib.hid (((Kept.of_below (lo := g) (hi := g + 1) HB0.out).trans hkk1).trans (Kept.of_below (lo := g) (hi := g + 1) HB1.out))
  have HX := Lib.hid hx
  have HRes := Lib.hid ((HB1.out.block w.heap.size (by omega)).trans hres)
  have HBox := Lib.hid rB
  have HS1 := Lib.hid (hs1.below hb1)
  have hz1a : w1.heap.size + 1 = (w1.alloc (.cells (affV x) 26)).heap.size := by simp
  clear hs hx hkk1 hres hs1 rA hb0 hb1 rB
  go_wp2_with fail
  refine (l05Word_any g bs k1 _ HS1.out (by omega)).mono ?_
  rintro e w2 ⟨s, k2, rfl, hsz, hk2, hs2, hkk2⟩
  have hkk2 : Kept g (g + 1) (w1.alloc (.cells (affV x) 26)) w2 := hkk2
  have hz2 := hkk2.size
  have HBox2 := Lib.hid ((hkk2.block w1.heap.size (by omega) (.inr (by omega))).trans HBox.out)
  have HRes2 := Lib.hid ((hkk2.block w.heap.size (by omega) (.inr (by omega))).trans HRes.out)
  have K2 := Lib.hid (K1.out.trans hkk2)
  have HS2 := Lib.hid hs2
  clear hkk2 hs2 HBox HRes
  go_wp2_with fail
  refine (one_any g bs k2 2 _ _ HS2.out (by omega) rfl (by omega)).mono ?_
  rintro e w3 ⟨b, k3, rfl, hk3, hs3, hkk3⟩
  have hz3 := hkk3.size
  have HBox3 := Lib.hid ((hkk3.block w1.heap.size (by omega) (.inr (by omega))).trans HBox2.out)
  have HRes3 := Lib.hid ((hkk3.block w.heap.size (by omega) (.inr (by omega))).trans HRes2.out)
  have K3 := Lib.hid (K2.out.trans hkk3)
  have HS3 := Lib.hid hs3
  have hne : ¬ (w1.heap.size = w.heap.size) := by omega
  have hne2 : ¬ (w.heap.size = w1.heap.size) := by omega
  clear hkk3 hs3 HBox2 HRes2
  cases b
  · obtain ⟨e0, z0⟩ := src_cell (w := w3) (i := 0) (v := (.string x.name)) HBox3.out rfl
    obtain ⟨e1, z1⟩ := src_cell (w := w3) (i := 1) (v := (.bool x.front)) HBox3.out rfl
    obtain ⟨e2, z2⟩ := src_cell (w := w3) (i := 2) (v := (.string x.cond)) HBox3.out rfl
    obtain ⟨e3, z3⟩ := src_cell (w := w3) (i := 3) (v := (.string x.strip)) HBox3.out rfl
    obtain ⟨e4, z4⟩ := src_cell (w := w3) (i := 4) (v := (.string x.add)) HBox3.out rfl
    obtain ⟨a0, y0⟩ := src_cell (w := w3) (i := 0) (v := (.string ⟨#[]⟩)) HRes3.out rfl
    obtain ⟨a1, y1⟩ := src_cell (w := w3) (i := 1) (v := (.bool false)) HRes3.out rfl
    obtain ⟨a2, y2⟩ := src_cell (w := w3) (i := 2) (v := (.string ⟨#[]⟩)) HRes3.out rfl
    obtain ⟨a3, y3⟩ := src_cell (w := w3) (i := 3) (v := (.string ⟨#[]⟩)) HRes3.out rfl
    obtain ⟨a4, y4⟩ := src_cell (w := w3) (i := 4) (v := (.string ⟨#[]⟩)) HRes3.out rfl
    go_wp2
    have st := store5 HRes3.out (.string x.name) (.bool x.front) (.string x.cond) (.string x.strip) (.string x.add)
    refine bodyPost_ret (v := .tuple #[.agg #[.string x.name, .bool x.front, .string x.cond, .string x.strip, .string x.add], .string s]) (results_cell_rowU (p := 2) (u := 3) (ty := 26) rfl _ _ w.heap.size _ _ _ _ rfl st.1 Tryd.underlying26 rfl infoAffix) rfl
      ⟨x, s, k3, rfl, HX.out, hsz, by omega, HS3.out.low (st.2.1.below (by omega) (by omega)), K3.out.then_new st.2.1 (Nat.le_refl _)⟩
  · go_wp2_with fail
    have hb : Below w3.heap.size w3 (w3.alloc (.cells (([⟨#[99, 105, 116, 121]⟩, ⟨#[114, 97, 116, 101, 115]⟩, ⟨#[114, 101, 116, 101, 115, 116]⟩, ⟨#[116, 101, 115, 116, 105, 110, 103]⟩, ⟨#[116, 97, 110, 110, 105, 110, 103]⟩, ⟨#[115, 101, 116]⟩, ⟨#[97, 116]⟩, ⟨#[117, 110, 97, 116]⟩, ⟨#[97, 98, 99, 100, 101, 102, 103, 104, 105, 106, 107, 108]⟩, ⟨#[99, 105, 116, 73, 101, 115]⟩] : List ByteArray).map Value.string).toArray 9)) := (Below.refl _ _).alloc (Nat.le_refl _) _
    have HB := Lib.hid hb
    have hst := strs_built w3 [⟨#[99, 105, 116, 121]⟩, ⟨#[114, 97, 116, 101, 115]⟩, ⟨#[114, 101, 116, 101, 115, 116]⟩, ⟨#[116, 101, 115, 116, 105, 110, 103]⟩, ⟨#[116, 97, 110, 110, 105, 110, 103]⟩, ⟨#[115, 101, 116]⟩, ⟨#[97, 116]⟩, ⟨#[117, 110, 97, 116]⟩, ⟨#[97, 98, 99, 100, 101, 102, 103, 104, 105, 106, 107, 108]⟩, ⟨#[99, 105, 116, 73, 101, 115]⟩] (by simp)
    refine (text_any g bs k3 _ [⟨#[99, 105, 116, 121]⟩, ⟨#[114, 97, 116, 101, 115]⟩, ⟨#[114, 101, 116, 101, 115, 116]⟩, ⟨#[116, 101, 115, 116, 105, 110, 103]⟩, ⟨#[116, 97, 110, 110, 105, 110, 103]⟩, ⟨#[115, 101, 116]⟩, ⟨#[97, 116]⟩, ⟨#[117, 110, 97, 116]⟩, ⟨#[97, 98, 99, 100, 101, 102, 103, 104, 105, 106, 107, 108]⟩, ⟨#[99, 105, 116, 73, 101, 115]⟩] _ (HS3.out.below hb) (by omega) hst (by simp) (by simp) (fun a n c e p hp => ?_)).mono ?_
    · cases e; cases hp; show w3.heap.size ≠ g; omega
    rintro e wt ⟨t, kt, rfl, htm, hkt, hst2, hkkt⟩
    have hkkt : Kept g (g + 1) (w3.alloc (.cells (([⟨#[99, 105, 116, 121]⟩, ⟨#[114, 97, 116, 101, 115]⟩, ⟨#[114, 101, 116, 101, 115, 116]⟩, ⟨#[116, 101, 115, 116, 105, 110, 103]⟩, ⟨#[116, 97, 110, 110, 105, 110, 103]⟩, ⟨#[115, 101, 116]⟩, ⟨#[97, 116]⟩, ⟨#[117, 110, 97, 116]⟩, ⟨#[97, 98, 99, 100, 101, 102, 103, 104, 105, 106, 107, 108]⟩, ⟨#[99, 105, 116, 73, 101, 115]⟩] : List ByteArray).map Value.string).toArray 9)) wt := hkkt
    have ht20 : t.size ≤ 20 := by
      simp only [List.mem_cons, List.not_mem_nil, or_false] at htm
      rcases htm with rfl | rfl | rfl | rfl | rfl | rfl | rfl | rfl | rfl | rfl <;> decide
    have Kt := Lib.hid ((K3.out.trans (Kept.of_below (lo := g) (hi := g + 1) HB.out)).trans hkkt)
    have HSt := Lib.hid hst2
    have hzt : w3.heap.size + 1 ≤ wt.heap.size := by have := hkkt.size; simpa using this
    have HBt := Lib.hid ((hkkt.block w1.heap.size (by simp; omega) (.inr (by omega))).trans ((HB.out.block w1.heap.size (by omega)).trans HBox3.out))
    have HRt := Lib.hid ((hkkt.block w.heap.size (by simp; omega) (.inr (by omega))).trans ((HB.out.block w.heap.size (by omega)).trans HRes3.out))
    clear hkkt hst2 htm hst hb
    obtain ⟨e0, z0⟩ := src_cell (w := wt) (i := 0) (v := (.string x.name)) HBt.out rfl
    obtain ⟨e1, z1⟩ := src_cell (w := wt) (i := 1) (v := (.bool x.front)) HBt.out rfl
    obtain ⟨e2, z2⟩ := src_cell (w := wt) (i := 2) (v := (.string x.cond)) HBt.out rfl
    obtain ⟨e3, z3⟩ := src_cell (w := wt) (i := 3) (v := (.string x.strip)) HBt.out rfl
    obtain ⟨e4, z4⟩ := src_cell (w := wt) (i := 4) (v := (.string x.add)) HBt.out rfl
    obtain ⟨a0, y0⟩ := src_cell (w := wt) (i := 0) (v := (.string ⟨#[]⟩)) HRt.out rfl
    obtain ⟨a1, y1⟩ := src_cell (w := wt) (i := 1) (v := (.bool false)) HRt.out rfl
    obtain ⟨a2, y2⟩ := src_cell (w := wt) (i := 2) (v := (.string ⟨#[]⟩)) HRt.out rfl
    obtain ⟨a3, y3⟩ := src_cell (w := wt) (i := 3) (v := (.string ⟨#[]⟩)) HRt.out rfl
    obtain ⟨a4, y4⟩ := src_cell (w := wt) (i := 4) (v := (.string ⟨#[]⟩)) HRt.out rfl
    go_wp2
    have st := store5 HRt.out (.string x.name) (.bool x.front) (.string x.cond) (.string x.strip) (.string x.add)
    refine bodyPost_ret (v := .tuple #[.agg #[.string x.name, .bool x.front, .string x.cond, .string x.strip, .string x.add], .string t]) (results_cell_rowU (p := 2) (u := 3) (ty := 26) rfl _ _ w.heap.size _ _ _ _ rfl st.1 Tryd.underlying26 rfl infoAffix) rfl
      ⟨x, t, kt, rfl, HX.out, ht20, by omega, HSt.out.low (st.2.1.below (by omega) (by omega)), Kt.out.then_new st.2.1 (Nat.le_refl _)⟩
theorem l05Long_is {s : ByteArray} {b : Bool} (hs : s.size ≤ maxLen) (hb : isLong s = b) (w : World) :
    Calls Tryd.prog 43 #[.string s] w fun e w' => e = .returned (.bool b) ∧ w = w' := by
  subst hb; exact l05Long_any s w hs
set_option maxHeartbeats 8000000 in
set_option maxRecDepth 20000 in
theorem drawUndo_any (v : Value) (bs : List UInt8) (w : World) (hv : BytesR w v bs) (hl : bs.length ≤ 5000) :
    Calls Tryd.prog 22 #[v] w fun e w' => ∃ (x : AffD) (s : ByteArray), e = .returned (.tuple #[.agg #[.string x.name, .bool x.front, .string x.cond, .string x.strip, .string x.add], .string s]) ∧ AffLim x 20 ∧ s.size ≤ 20 ∧ Below w.heap.size w w' := by
  obtain ⟨pa, pc, rfl, -, -⟩ := hv.shape
  have hb0 : Below w.heap.size w (w.alloc (.cells affNil 26)) := (Below.refl _ _).alloc (Nat.le_refl _) _
  have HB0 := Lib.hid hb0
  have rA := heap_alloc_new w (.cells affNil 26)
  go_enter Tryd.func22, Tryd.ntmps22
  go_wp2_with fail
  refine (l00From_any _ bs _ (hv.below hb0) hl).mono ?_
  rintro e w1 ⟨rfl, hs1, hb1⟩
  obtain ⟨g, hg⟩ : ∃ g, g = (w.alloc (.cells affNil 26)).heap.size := ⟨_, rfl⟩
  rw [← hg] at hs1
  have hgs : g = w.heap.size + 1 := by rw [hg]; simp
  have hb1' : Below (w.alloc (.cells affNil 26)).heap.size (w.alloc (.cells affNil 26)) w1 := hb1
  rw [show (w.alloc (.cells affNil 26)).heap.size = g from hg.symm]
  have HR1 := Lib.hid ((hb1'.block w.heap.size (by simp)).trans rA)
  have HB1 := Lib.hid (HB0.out.trans (hb1'.mono HB0.out.size))
  have HS1 := Lib.hid hs1
  have hgl := hs1.lt
  clear hb1 hb1' hs1 rA hb0 hv hg
  subst hgs
  go_wp2_with fail
  refine (l04Both_any _ bs 0 _ HS1.out (by omega)).mono ?_
  rintro e w2 ⟨x, s, k2, rfl, hx, hsz, hk2, hs2, hkk2⟩
  have hz2 := hkk2.size
  have HR2 := Lib.hid ((hkk2.block w.heap.size (by omega) (.inl (by omega))).trans HR1.out)
  have HB2 := Lib.hid (HB1.out.trans (hkk2.below (by omega) HB1.out.size))
  have HX := Lib.hid hx
  have HSz := Lib.hid hsz
  have hsm : s.size ≤ maxLen := by unfold maxLen; omega
  have hb3 : Below w2.heap.size w2 (w2.alloc (.cells (affV x) 26)) := (Below.refl _ _).alloc (Nat.le_refl _) _
  have HBox := Lib.hid (AffR.box (w := w2) ⟨rfl, hx.mono (by decide)⟩ 26)
  have HH := Lib.hid (heap_alloc_new w2 (.cells (affV x) 26))
  have HS2 := Lib.hid (hs2.below hb3)
  have HR3 := Lib.hid ((hb3.block w.heap.size (by omega)).trans HR2.out)
  have HB3 := Lib.hid (HB2.out.trans (hb3.mono HB2.out.size))
  have hz3 : (w2.alloc (.cells (affV x) 26)).heap.size = w2.heap.size + 1 := by simp
  have hne : ¬ (w2.heap.size = w.heap.size) := by omega
  have hne2 : ¬ (w.heap.size = w2.heap.size) := by omega
  clear hkk2 hs2 hx hsz hb3
  go_wp2_with fail
  refine (l04Affix_any _ x _ HBox.out).mono ?_
  cases haf : affB x
  all_goals
    have HAf := Lib.hid haf
    clear haf
    rintro e w4 ⟨rfl, q, hw4⟩
    have hb4 : Below (w2.alloc (.cells (affV x) 26)).heap.size (w2.alloc (.cells (affV x) 26)) w4 := by rw [hw4]; exact below_drewN (Below.refl _ _) _
    have hz4 := hb4.size
    have HS4 := Lib.hid (HS2.out.below hb4)
    have HR4 := Lib.hid ((hb4.block w.heap.size (by omega)).trans HR3.out)
    have HB4 := Lib.hid (HB3.out.trans (hb4.mono HB3.out.size))
    have HX4 := Lib.hid (HBox.out.below hb4)
    have HH4 := Lib.hid ((hb4.block w2.heap.size (by omega)).trans HH.out)
    clear hw4 hb4 HS2 HR3 HH HBox
  · obtain ⟨e0, z0⟩ := src_cell (w := w4) (i := 0) (v := (.string x.name)) HH4.out rfl
    obtain ⟨e1, z1⟩ := src_cell (w := w4) (i := 1) (v := (.bool x.front)) HH4.out rfl
    obtain ⟨e2, z2⟩ := src_cell (w := w4) (i := 2) (v := (.string x.cond)) HH4.out rfl
    obtain ⟨e3, z3⟩ := src_cell (w := w4) (i := 3) (v := (.string x.strip)) HH4.out rfl
    obtain ⟨e4, z4⟩ := src_cell (w := w4) (i := 4) (v := (.string x.add)) HH4.out rfl
    obtain ⟨a0, y0⟩ := src_cell (w := w4) (i := 0) (v := (.string ⟨#[]⟩)) HR4.out rfl
    obtain ⟨a1, y1⟩ := src_cell (w := w4) (i := 1) (v := (.bool false)) HR4.out rfl
    obtain ⟨a2, y2⟩ := src_cell (w := w4) (i := 2) (v := (.string ⟨#[]⟩)) HR4.out rfl
    obtain ⟨a3, y3⟩ := src_cell (w := w4) (i := 3) (v := (.string ⟨#[]⟩)) HR4.out rfl
    obtain ⟨a4, y4⟩ := src_cell (w := w4) (i := 4) (v := (.string ⟨#[]⟩)) HR4.out rfl
    go_wp2
    have st := store5 HR4.out (.string x.name) (.bool x.front) (.string x.cond) (.string x.strip) (.string x.add)
    refine bodyPost_ret (v := .tuple #[.agg #[.string x.name, .bool x.front, .string x.cond, .string x.strip, .string x.add], .string s]) (results_cell_rowU (p := 2) (u := 3) (ty := 26) rfl _ _ w.heap.size _ _ _ _ rfl st.1 Tryd.underlying26 rfl infoAffix) rfl
      ⟨x, s, rfl, HX.out, HSz.out, HB4.out.trans (st.2.1.below (Nat.le_refl _) HB4.out.size)⟩
  · go_wp2_with fail
    cases hlg : isLong s
    · refine (l05Long_is hsm hlg _).mono ?_
      rintro e w5 ⟨rfl, rfl⟩
      clear hlg
      obtain ⟨e0, z0⟩ := src_cell (w := w4) (i := 0) (v := (.string x.name)) HH4.out rfl
      obtain ⟨e1, z1⟩ := src_cell (w := w4) (i := 1) (v := (.bool x.front)) HH4.out rfl
      obtain ⟨e2, z2⟩ := src_cell (w := w4) (i := 2) (v := (.string x.cond)) HH4.out rfl
      obtain ⟨e3, z3⟩ := src_cell (w := w4) (i := 3) (v := (.string x.strip)) HH4.out rfl
      obtain ⟨e4, z4⟩ := src_cell (w := w4) (i := 4) (v := (.string x.add)) HH4.out rfl
      obtain ⟨a0, y0⟩ := src_cell (w := w4) (i := 0) (v := (.string ⟨#[]⟩)) HR4.out rfl
      obtain ⟨a1, y1⟩ := src_cell (w := w4) (i := 1) (v := (.bool false)) HR4.out rfl
      obtain ⟨a2, y2⟩ := src_cell (w := w4) (i := 2) (v := (.string ⟨#[]⟩)) HR4.out rfl
      obtain ⟨a3, y3⟩ := src_cell (w := w4) (i := 3) (v := (.string ⟨#[]⟩)) HR4.out rfl
      obtain ⟨a4, y4⟩ := src_cell (w := w4) (i := 4) (v := (.string ⟨#[]⟩)) HR4.out rfl
      go_wp2
      have st := store5 HR4.out (.string x.name) (.bool x.front) (.string x.cond) (.string x.strip) (.string x.add)
      refine bodyPost_ret (v := .tuple #[.agg #[.string x.name, .bool x.front, .string x.cond, .string x.strip, .string x.add], .string s]) (results_cell_rowU (p := 2) (u := 3) (ty := 26) rfl _ _ w.heap.size _ _ _ _ rfl st.1 Tryd.underlying26 rfl infoAffix) rfl
        ⟨x, s, rfl, HX.out, HSz.out, HB4.out.trans (st.2.1.below (Nat.le_refl _) HB4.out.size)⟩
    · refine (l05Long_is hsm hlg _).mono ?_
      rintro e w5 ⟨rfl, rfl⟩
      have HLg := Lib.hid hlg
      clear hlg
      go_wp2_with fail
      refine (one_any _ bs k2 2 _ _ HS4.out (by omega) rfl (by omega)).mono ?_
      rintro e w5 ⟨b, k3, rfl, hk3, hs3, hkk3⟩
      have hz5 := hkk3.size
      have HR5 := Lib.hid ((hkk3.block w.heap.size (by omega) (.inl (by omega))).trans HR4.out)
      have HH5 := Lib.hid ((hkk3.block w2.heap.size (by omega) (.inr (by omega))).trans HH4.out)
      have HB5 := Lib.hid (HB4.out.trans (hkk3.below (by omega) HB4.out.size))
      clear hkk3 hs3
      cases b
      · obtain ⟨e0, z0⟩ := src_cell (w := w5) (i := 0) (v := (.string x.name)) HH5.out rfl
        obtain ⟨e1, z1⟩ := src_cell (w := w5) (i := 1) (v := (.bool x.front)) HH5.out rfl
        obtain ⟨e2, z2⟩ := src_cell (w := w5) (i := 2) (v := (.string x.cond)) HH5.out rfl
        obtain ⟨e3, z3⟩ := src_cell (w := w5) (i := 3) (v := (.string x.strip)) HH5.out rfl
        obtain ⟨e4, z4⟩ := src_cell (w := w5) (i := 4) (v := (.string x.add)) HH5.out rfl
        obtain ⟨a0, y0⟩ := src_cell (w := w5) (i := 0) (v := (.string ⟨#[]⟩)) HR5.out rfl
        obtain ⟨a1, y1⟩ := src_cell (w := w5) (i := 1) (v := (.bool false)) HR5.out rfl
        obtain ⟨a2, y2⟩ := src_cell (w := w5) (i := 2) (v := (.string ⟨#[]⟩)) HR5.out rfl
        obtain ⟨a3, y3⟩ := src_cell (w := w5) (i := 3) (v := (.string ⟨#[]⟩)) HR5.out rfl
        obtain ⟨a4, y4⟩ := src_cell (w := w5) (i := 4) (v := (.string ⟨#[]⟩)) HR5.out rfl
        go_wp2
        have st := store5 HR5.out (.string x.name) (.bool x.front) (.string x.cond) (.string x.strip) (.string x.add)
        refine bodyPost_ret (v := .tuple #[.agg #[.string x.name, .bool x.front, .string x.cond, .string x.strip, .string x.add], .string s]) (results_cell_rowU (p := 2) (u := 3) (ty := 26) rfl _ _ w.heap.size _ _ _ _ rfl st.1 Tryd.underlying26 rfl infoAffix) rfl
          ⟨x, s, rfl, HX.out, HSz.out, HB5.out.trans (st.2.1.below (Nat.le_refl _) HB5.out.size)⟩
      · have HX5 : Hid (AffBox w5 w2.heap.size x) := Lib.hid ⟨(src_cell (i := 0) HH5.out rfl).1, (src_cell (i := 1) HH5.out rfl).1, (src_cell (i := 2) HH5.out rfl).1, (src_cell (i := 3) HH5.out rfl).1, (src_cell (i := 4) HH5.out rfl).1, HX.out.mono (by decide)⟩
        go_wp2_with fail
        refine (l04Apply_any _ x s _ HX5.out HAf.out HLg.out).mono ?_
        have hle : (apV x s).1.size ≤ 12 := by have := appV_le x s; rwa [appV_ap HAf.out HLg.out] at this
        have hle2 : (apV x s).1.size ≤ 20 := by omega
        generalize apV x s = r at hle hle2 ⊢
        rintro e w6 ⟨rfl, hb6⟩
        have hz6 := hb6.size
        have HR6 := Lib.hid ((hb6.block w.heap.size (by omega)).trans HR5.out)
        have HH6 := Lib.hid ((hb6.block w2.heap.size (by omega)).trans HH5.out)
        have HB6 := Lib.hid (HB5.out.trans (hb6.mono HB5.out.size))
        clear hb6
        obtain ⟨r1, r2⟩ := r
        cases hr : (r2 == 0)
        · obtain ⟨e0, z0⟩ := src_cell (w := w6) (i := 0) (v := (.string x.name)) HH6.out rfl
          obtain ⟨e1, z1⟩ := src_cell (w := w6) (i := 1) (v := (.bool x.front)) HH6.out rfl
          obtain ⟨e2, z2⟩ := src_cell (w := w6) (i := 2) (v := (.string x.cond)) HH6.out rfl
          obtain ⟨e3, z3⟩ := src_cell (w := w6) (i := 3) (v := (.string x.strip)) HH6.out rfl
          obtain ⟨e4, z4⟩ := src_cell (w := w6) (i := 4) (v := (.string x.add)) HH6.out rfl
          obtain ⟨a0, y0⟩ := src_cell (w := w6) (i := 0) (v := (.string ⟨#[]⟩)) HR6.out rfl
          obtain ⟨a1, y1⟩ := src_cell (w := w6) (i := 1) (v := (.bool false)) HR6.out rfl
          obtain ⟨a2, y2⟩ := src_cell (w := w6) (i := 2) (v := (.string ⟨#[]⟩)) HR6.out rfl
          obtain ⟨a3, y3⟩ := src_cell (w := w6) (i := 3) (v := (.string ⟨#[]⟩)) HR6.out rfl
          obtain ⟨a4, y4⟩ := src_cell (w := w6) (i := 4) (v := (.string ⟨#[]⟩)) HR6.out rfl
          go_wp2
          have st := store5 HR6.out (.string x.name) (.bool x.front) (.string x.cond) (.string x.strip) (.string x.add)
          refine bodyPost_ret (v := .tuple #[.agg #[.string x.name, .bool x.front, .string x.cond, .string x.strip, .string x.add], .string s]) (results_cell_rowU (p := 2) (u := 3) (ty := 26) rfl _ _ w.heap.size _ _ _ _ rfl st.1 Tryd.underlying26 rfl infoAffix) rfl
            ⟨x, s, rfl, HX.out, HSz.out, HB6.out.trans (st.2.1.below (Nat.le_refl _) HB6.out.size)⟩
        · obtain ⟨e0, z0⟩ := src_cell (w := w6) (i := 0) (v := (.string x.name)) HH6.out rfl
          obtain ⟨e1, z1⟩ := src_cell (w := w6) (i := 1) (v := (.bool x.front)) HH6.out rfl
          obtain ⟨e2, z2⟩ := src_cell (w := w6) (i := 2) (v := (.string x.cond)) HH6.out rfl
          obtain ⟨e3, z3⟩ := src_cell (w := w6) (i := 3) (v := (.string x.strip)) HH6.out rfl
          obtain ⟨e4, z4⟩ := src_cell (w := w6) (i := 4) (v := (.string x.add)) HH6.out rfl
          obtain ⟨a0, y0⟩ := src_cell (w := w6) (i := 0) (v := (.string ⟨#[]⟩)) HR6.out rfl
          obtain ⟨a1, y1⟩ := src_cell (w := w6) (i := 1) (v := (.bool false)) HR6.out rfl
          obtain ⟨a2, y2⟩ := src_cell (w := w6) (i := 2) (v := (.string ⟨#[]⟩)) HR6.out rfl
          obtain ⟨a3, y3⟩ := src_cell (w := w6) (i := 3) (v := (.string ⟨#[]⟩)) HR6.out rfl
          obtain ⟨a4, y4⟩ := src_cell (w := w6) (i := 4) (v := (.string ⟨#[]⟩)) HR6.out rfl
          go_wp2
          have st := store5 HR6.out (.string x.name) (.bool x.front) (.string x.cond) (.string x.strip) (.string x.add)
          refine bodyPost_ret (v := .tuple #[.agg #[.string x.name, .bool x.front, .string x.cond, .string x.strip, .string x.add], .string r1]) (results_cell_rowU (p := 2) (u := 3) (ty := 26) rfl _ _ w.heap.size _ _ _ _ rfl st.1 Tryd.underlying26 rfl infoAffix) rfl
            ⟨x, r1, rfl, HX.out, hle2, HB6.out.trans (st.2.1.below (Nat.le_refl _) HB6.out.size)⟩
theorem f6big_any (a : Option Addr) (n c : Nat) (w : World) (hn : n ≤ maxLen) :
    Calls Tryd.prog 21 #[.slice a n c] w fun e w' => e = .returned (.bool (decide (4096 < n))) ∧ w' = w := by
  unfold maxLen at hn
  by_cases h : 4096 < n
  · have hI : (4096 : Int) < (n : Int) := by omega
    go_enter Tryd.func21, Tryd.ntmps21
    go_wp2
    go_ret
    exact ⟨ret_bool (by simp [h]), rfl⟩
  · have hI : ¬ ((4096 : Int) < (n : Int)) := by omega
    go_enter Tryd.func21, Tryd.ntmps21
    go_wp2
    go_ret
    exact ⟨ret_bool (by simp <;> omega), rfl⟩
end Go.Proofs.YtjefmicahadijaaDoor
