/- FnAffixes: the drawn affix and word, behind the plain one. Condition: few choices so far. -/
import Derived.Test.YtjefmicahadijaaDoorAfW
namespace Go.Proofs.YtjefmicahadijaaDoor
open Go.RowKit
theorem results_cell_rowU {P : Program} {fn : Func} {p u : Tmp} {ty : TypeId} (h : fn.results = #[.cell p ty, .tmp u]) (tmps : Array Value) (w : World) (g : Nat) (t : TypeId) (cs : Array Value) (fr : Nat × Nat) (d : TypeDesc)
    (hp : tmps.getD p undef = .pointer (some ⟨g, 0, none⟩)) (hg : w.heap[g]? = some (.cells cs t fr))
    (hu : P.underlying ty = some d) (hd : (match d with | .struct _ | .array _ _ => true | _ => false) = true) (hi : (P.info? ty).map (·.size) = some cs.size) :
    (results fn tmps).run P w = .ok (.tuple #[.agg cs, tmps.getD u undef]) w := by
  rw [results_cell_tmp h, hp]
  have hl := run_loadVar_row w g t ty cs fr d hg hu hd hi
  simp [asAddr, hl, Result.andThen]
def someL : List ByteArray := [⟨#[97, 110]⟩, ⟨#[97, 116]⟩, ⟨#[97, 116, 101]⟩, ⟨#[101, 97, 114]⟩, ⟨#[101, 97, 114, 110]⟩, ⟨#[101, 97, 114, 115]⟩, ⟨#[101, 97, 115, 116]⟩, ⟨#[101, 97, 116]⟩, ⟨#[101, 97, 116, 101, 110]⟩, ⟨#[101, 97, 116, 115]⟩, ⟨#[101, 110]⟩, ⟨#[97, 110, 116]⟩, ⟨#[97, 110, 116, 115]⟩, ⟨#[97, 114, 101]⟩, ⟨#[97, 114, 101, 110, 97]⟩, ⟨#[97, 114, 116]⟩, ⟨#[97, 114, 116, 115]⟩, ⟨#[97, 115]⟩, ⟨#[101, 114]⟩, ⟨#[101, 115]⟩, ⟨#[105, 110]⟩, ⟨#[105, 115]⟩, ⟨#[110, 97]⟩, ⟨#[110, 101]⟩, ⟨#[110, 101, 97, 114]⟩, ⟨#[110, 101, 97, 116]⟩, ⟨#[110, 101, 115, 116]⟩, ⟨#[110, 101, 115, 116, 115]⟩, ⟨#[110, 101, 116]⟩, ⟨#[114, 97, 116]⟩, ⟨#[114, 97, 116, 101]⟩, ⟨#[114, 97, 116, 101, 115]⟩, ⟨#[114, 101]⟩, ⟨#[114, 101, 115, 116]⟩, ⟨#[115, 97, 116]⟩, ⟨#[115, 101, 97]⟩, ⟨#[115, 101, 97, 116]⟩, ⟨#[115, 101, 116]⟩, ⟨#[116, 97]⟩, ⟨#[116, 97, 114]⟩, ⟨#[116, 97, 114, 115]⟩, ⟨#[116, 97, 114, 116]⟩, ⟨#[116, 101, 97]⟩, ⟨#[116, 101, 97, 114]⟩, ⟨#[116, 101, 97, 115]⟩, ⟨#[116, 101, 110]⟩, ⟨#[116, 101, 114, 110]⟩, ⟨#[116, 101, 115, 116]⟩, ⟨#[116, 101, 115, 116, 115]⟩, ⟨#[116, 114, 101, 101, 115]⟩, ⟨#[98, 97, 110, 97, 110, 97]⟩, ⟨#[98, 101, 101]⟩, ⟨#[98, 101, 101, 110]⟩, ⟨#[98, 101, 101, 115]⟩, ⟨#[115, 116, 97, 114]⟩, ⟨#[115, 116, 97, 114, 101]⟩, ⟨#[115, 116, 97, 114, 116]⟩, ⟨#[116, 114, 101, 101]⟩, ⟨#[115, 116, 97, 114, 115]⟩, ⟨#[116, 114, 101, 97, 116, 115]⟩]
theorem someL_le : ∀ s ∈ someL, s.size ≤ 20 := by decide +kernel
attribute [local irreducible] Calls
set_option maxHeartbeats 2000000 in
set_option maxRecDepth 20000 in
theorem l05Some_any (w : World) : Calls Tryd.prog 117 #[] w fun e w' => e = .returned (.slice (some ⟨w.heap.size, 0, none⟩) someL.length someL.length) ∧ w' = w.alloc (.cells (someL.map Value.string).toArray 9) := by
  go_enter Tryd.func117, Tryd.ntmps117
  go_wp2
  go_ret
  exact ⟨rfl, rfl⟩
set_option maxHeartbeats 2000000 in
set_option maxRecDepth 20000 in
theorem l05Word_any (g : Nat) (bs : List UInt8) (k : Nat) (w : World) (hs : SrcW w g bs k) (hk : k ≤ 100000) :
    Calls Tryd.prog 90 #[.pointer (some ⟨g, 0, none⟩)] w fun e w' => ∃ (s : ByteArray) (k' : Nat), e = .returned (.string s) ∧ s.size ≤ 20 ∧ k' ≤ k + 4 ∧ SrcW w' g bs k' ∧ Kept g (g + 1) w w' := by
  have hgl := hs.lt
  go_enter Tryd.func90, Tryd.ntmps90
  go_wp2_with fail
  refine (one_any g bs k 8 _ _ hs (by omega) rfl (by omega)).mono ?_
  rintro e w1 ⟨b, k1, rfl, hk1, hs1, hkk1⟩
  have hz1 := hkk1.size
  have HS1 := Lib.hid hs1
  have K1 := Lib.hid hkk1
  clear hs hs1 hkk1
  cases b
  · go_wp2_with fail
    refine (l05Some_any _).mono ?_
    rintro e w2 ⟨rfl, hw2⟩
    have hb2 : Below w1.heap.size w1 w2 := by rw [hw2]; exact (Below.refl _ _).alloc (Nat.le_refl _) _
    have hst := strs_built w1 someL (by decide +kernel) (fun s h => Nat.le_trans (someL_le s h) (by decide))
    rw [← hw2] at hst
    have K2 := Lib.hid (K1.out.trans (Kept.of_below (lo := g) (hi := g + 1) hb2))
    clear hw2
    go_wp2_with fail
    refine (text_any g bs k1 _ someL _ (HS1.out.below hb2) (by omega) hst (by decide +kernel) (by decide +kernel) (fun a n c e p hp => ?_)).mono ?_
    · cases e; cases hp; show w1.heap.size ≠ g; omega
    rintro e w3 ⟨t, k2, rfl, htm, hk2, hs2, hkk2⟩
    have ht20 := someL_le t htm
    have K3 := Lib.hid (K2.out.trans hkk2)
    have HS3 := Lib.hid hs2
    clear hkk2 hs2 htm hst hb2
    go_wp2
    go_ret
    exact ⟨t, k2, rfl, ht20, by omega, HS3.out, K3.out⟩
  · go_wp2_with fail
    have hb : Below w1.heap.size w1 (w1.alloc (.cells (([⟨#[]⟩, ⟨#[97]⟩, ⟨#[65, 110]⟩, ⟨#[97, 98, 99, 100, 101, 102, 103, 104, 105, 106, 107, 108, 109]⟩, ⟨#[122, 122]⟩] : List ByteArray).map Value.string).toArray 9)) := (Below.refl _ _).alloc (Nat.le_refl _) _
    have HB := Lib.hid hb
    have hst := strs_built w1 [⟨#[]⟩, ⟨#[97]⟩, ⟨#[65, 110]⟩, ⟨#[97, 98, 99, 100, 101, 102, 103, 104, 105, 106, 107, 108, 109]⟩, ⟨#[122, 122]⟩] (by simp)
    refine (text_any g bs k1 _ [⟨#[]⟩, ⟨#[97]⟩, ⟨#[65, 110]⟩, ⟨#[97, 98, 99, 100, 101, 102, 103, 104, 105, 106, 107, 108, 109]⟩, ⟨#[122, 122]⟩] _ (HS1.out.below hb) (by omega) hst (by simp) (by simp) (fun a n c e p hp => ?_)).mono ?_
    · cases e; cases hp; show w1.heap.size ≠ g; omega
    rintro e wt ⟨t, kt, rfl, htm, hkt, hst2, hkkt⟩
    have hkkt : Kept g (g + 1) (w1.alloc (.cells (([⟨#[]⟩, ⟨#[97]⟩, ⟨#[65, 110]⟩, ⟨#[97, 98, 99, 100, 101, 102, 103, 104, 105, 106, 107, 108, 109]⟩, ⟨#[122, 122]⟩] : List ByteArray).map Value.string).toArray 9)) wt := hkkt
    have ht20 : t.size ≤ 20 := by
      simp only [List.mem_cons, List.not_mem_nil, or_false] at htm
      rcases htm with rfl | rfl | rfl | rfl | rfl <;> first | decide | assumption
    have Kt := Lib.hid ((K1.out.trans (Kept.of_below (lo := g) (hi := g + 1) HB.out)).trans hkkt)
    have HSt := Lib.hid hst2
    have hzt : w1.heap.size + 1 ≤ wt.heap.size := by have := hkkt.size; simpa using this
    clear hkkt hst2 htm hst hb
    go_wp2
    go_ret
    exact ⟨t, kt, rfl, ht20, by omega, HSt.out, Kt.out⟩
set_option maxHeartbeats 8000000 in
set_option maxRecDepth 20000 in
theorem bentAffix_any (g : Nat) (bs : List UInt8) (k : Nat) (w : World) (hs : SrcW w g bs k) (hk : k ≤ 100000) :
    Calls Tryd.prog 89 #[.pointer (some ⟨g, 0, none⟩)] w fun e w' => ∃ (x : AffD) (k' : Nat), e = .returned (.agg #[.string x.name, .bool x.front, .string x.cond, .string x.strip, .string x.add]) ∧ AffLim x 20 ∧ k' ≤ k + 8 ∧ SrcW w' g bs k' ∧ Kept g (g + 1) w w' := by
  have hgl := hs.lt
  have hb0 : Below w.heap.size w (w.alloc (.cells affNil 26)) := (Below.refl _ _).alloc (Nat.le_refl _) _
  have HB0 := Lib.hid hb0
  have rA := heap_alloc_new w (.cells affNil 26)
  go_enter Tryd.func89, Tryd.ntmps89
  go_wp2_with fail
  refine (drawAffix_any g bs k _ (hs.below hb0) (by omega)).mono ?_
  rintro e w1 ⟨x, k1, rfl, hx, hk1, hs1, hkk1⟩
  have hkk1 : Kept g (g + 1) (w.alloc (.cells affNil 26)) w1 := hkk1
  have hz1 : w.heap.size + 1 ≤ w1.heap.size := by have := hkk1.size; simpa using this
  have hres := (hkk1.block w.heap.size (by simp) (.inr (by omega))).trans rA
  have hb1 : Below w1.heap.size w1 (w1.alloc (.cells (affV x) 26)) := (Below.refl _ _).alloc (Nat.le_refl _) _
  have HB1 := Lib.hid hb1
  have rB := heap_alloc_new w1 (.cells (affV x) 26)
  have K1 := Lib.hid (((Kept.of_below (lo := g) (hi := g + 1) HB0.out).trans hkk1).trans (Kept.of_below (lo := g) (hi := g + 1) HB1.out))
  have HX := Lib.hid hx
  have HRes := Lib.hid hres
  have HS1 := Lib.hid hs1
  clear hs hx hkk1 hres hs1 rA hb0
  go_wp2_with fail
  refine (pick_any g bs k1 30 _ _ (HS1.out.below hb1) (by omega) rfl (by omega)).mono ?_
  rintro e w2 ⟨r, k2, rfl, hr, hk2, hs2, hkk2⟩
  have hkk2 : Kept g (g + 1) (w1.alloc (.cells (affV x) 26)) w2 := hkk2
  have hz2 : w1.heap.size + 1 ≤ w2.heap.size := by have := hkk2.size; simpa using this
  have hbox := (hkk2.block w1.heap.size (by simp) (.inr (by omega))).trans rB
  have hres := ((hkk2.block w.heap.size (by simp; omega) (.inr (by omega))).trans (HB1.out.block w.heap.size (by omega))).trans HRes.out
  have K2 := Lib.hid (K1.out.trans hkk2)
  have HS2 := Lib.hid hs2
  have HBox := Lib.hid hbox
  have HR2 := Lib.hid hres
  have hne : ¬ (w1.heap.size = w.heap.size) := by omega
  have hne2 : ¬ (w.heap.size = w1.heap.size) := by omega
  have xn := HX.out.n
  have xc := HX.out.c
  have xs := HX.out.s
  have xa := HX.out.a
  clear hkk2 rB hb1 hs2 hbox hres hr
  by_cases r0 : r = 0
  · subst r0
    obtain ⟨e0, z0⟩ := src_cell (w := w2) (i := 0) (v := (.string x.name)) HBox.out rfl
    obtain ⟨e1, z1⟩ := src_cell (w := w2) (i := 1) (v := (.bool x.front)) HBox.out rfl
    obtain ⟨e2, z2⟩ := src_cell (w := w2) (i := 2) (v := (.string x.cond)) HBox.out rfl
    obtain ⟨e3, z3⟩ := src_cell (w := w2) (i := 3) (v := (.string x.strip)) HBox.out rfl
    obtain ⟨e4, z4⟩ := src_cell (w := w2) (i := 4) (v := (.string x.add)) HBox.out rfl
    obtain ⟨a0, y0⟩ := src_cell (w := w2) (i := 0) (v := (.string ⟨#[]⟩)) HR2.out rfl
    obtain ⟨a1, y1⟩ := src_cell (w := w2) (i := 1) (v := (.bool false)) HR2.out rfl
    obtain ⟨a2, y2⟩ := src_cell (w := w2) (i := 2) (v := (.string ⟨#[]⟩)) HR2.out rfl
    obtain ⟨a3, y3⟩ := src_cell (w := w2) (i := 3) (v := (.string ⟨#[]⟩)) HR2.out rfl
    obtain ⟨a4, y4⟩ := src_cell (w := w2) (i := 4) (v := (.string ⟨#[]⟩)) HR2.out rfl
    go_wp2
    have hr3 : (w2.setCell ⟨w1.heap.size, 0, none⟩ (.string ⟨#[]⟩)).heap[w.heap.size]? = some (.cells affNil 26 (0, 0)) := (Below.heap_setCell _ _ _ _ (by show w.heap.size ≠ w1.heap.size; omega)).trans HR2.out
    have hk3 : Kept w1.heap.size (w1.heap.size + 1) w2 (w2.setCell ⟨w1.heap.size, 0, none⟩ (.string ⟨#[]⟩)) := kept_setCell (Nat.le_refl _) (Nat.lt_succ_self _) _
    have hz3 := hk3.size
    have HR := Lib.hid hr3
    have HSe := Lib.hid (HS2.out.low (hk3.below (by omega) (by omega)))
    have Ke := Lib.hid (K2.out.then_new hk3 (by omega))
    have st := store5 HR.out (.string ⟨#[]⟩) (.bool x.front) (.string x.cond) (.string x.strip) (.string x.add)
    refine bodyPost_ret (v := .agg #[.string ⟨#[]⟩, .bool x.front, .string x.cond, .string x.strip, .string x.add]) (results_cell_row (p := 2) (ty := 26) rfl _ _ w.heap.size _ _ _ _ rfl st.1 Tryd.underlying26 rfl infoAffix) rfl
      ⟨{ x with name := ⟨#[]⟩ }, k2, rfl, ⟨(by simp [ByteArray.size]), xc, xs, xa⟩, by omega, HSe.out.low (st.2.1.below (by omega) (by omega)), Ke.out.then_new st.2.1 (Nat.le_refl _)⟩
  · by_cases r1 : r = 1
    · subst r1
      obtain ⟨e0, z0⟩ := src_cell (w := w2) (i := 0) (v := (.string x.name)) HBox.out rfl
      obtain ⟨e1, z1⟩ := src_cell (w := w2) (i := 1) (v := (.bool x.front)) HBox.out rfl
      obtain ⟨e2, z2⟩ := src_cell (w := w2) (i := 2) (v := (.string x.cond)) HBox.out rfl
      obtain ⟨e3, z3⟩ := src_cell (w := w2) (i := 3) (v := (.string x.strip)) HBox.out rfl
      obtain ⟨e4, z4⟩ := src_cell (w := w2) (i := 4) (v := (.string x.add)) HBox.out rfl
      go_wp2_with fail
      have hb : Below w2.heap.size w2 (w2.alloc (.cells (([⟨#[97, 97, 97, 97, 97]⟩, ⟨#[97, 97, 97, 97]⟩, ⟨#[65]⟩, ⟨#[46, 46, 46, 46]⟩] : List ByteArray).map Value.string).toArray 9)) := (Below.refl _ _).alloc (Nat.le_refl _) _
      have HB := Lib.hid hb
      have hst := strs_built w2 [⟨#[97, 97, 97, 97, 97]⟩, ⟨#[97, 97, 97, 97]⟩, ⟨#[65]⟩, ⟨#[46, 46, 46, 46]⟩] (by simp)
      refine (text_any g bs k2 _ [⟨#[97, 97, 97, 97, 97]⟩, ⟨#[97, 97, 97, 97]⟩, ⟨#[65]⟩, ⟨#[46, 46, 46, 46]⟩] _ (HS2.out.below hb) (by omega) hst (by simp) (by simp) (fun a n c e p hp => ?_)).mono ?_
      · cases e; cases hp; show w2.heap.size ≠ g; omega
      rintro e wt ⟨t, kt, rfl, htm, hkt, hst2, hkkt⟩
      have hkkt : Kept g (g + 1) (w2.alloc (.cells (([⟨#[97, 97, 97, 97, 97]⟩, ⟨#[97, 97, 97, 97]⟩, ⟨#[65]⟩, ⟨#[46, 46, 46, 46]⟩] : List ByteArray).map Value.string).toArray 9)) wt := hkkt
      have ht20 : t.size ≤ 20 := by
        simp only [List.mem_cons, List.not_mem_nil, or_false] at htm
        rcases htm with rfl | rfl | rfl | rfl <;> first | decide | assumption
      have Kt := Lib.hid ((K2.out.trans (Kept.of_below (lo := g) (hi := g + 1) HB.out)).trans hkkt)
      have HSt := Lib.hid hst2
      have hzt : w2.heap.size + 1 ≤ wt.heap.size := by have := hkkt.size; simpa using this
      have hbox := (hkkt.block w1.heap.size (by simp; omega) (.inr (by omega))).trans ((HB.out.block w1.heap.size (by omega)).trans HBox.out)
      have hres := (hkkt.block w.heap.size (by simp; omega) (.inr (by omega))).trans ((HB.out.block w.heap.size (by omega)).trans HR2.out)
      have HBt := Lib.hid hbox
      have HRt := Lib.hid hres
      clear hkkt hst2 htm hst hb hbox hres e0 e1 e2 e3 e4 z0 z1 z2 z3 z4
      obtain ⟨e0, z0⟩ := src_cell (w := wt) (i := 0) (v := (.string x.name)) HBt.out rfl
      obtain ⟨e1, z1⟩ := src_cell (w := wt) (i := 1) (v := (.bool x.front)) HBt.out rfl
      obtain ⟨e2, z2⟩ := src_cell (w := wt) (i := 2) (v := (.string x.cond)) HBt.out rfl
      obtain ⟨e3, z3⟩ := src_cell (w := wt) (i := 3) (v := (.string x.strip)) HBt.out rfl
      obtain ⟨e4, z4⟩ := src_cell (w := wt) (i := 4) (v := (.string x.add)) HBt.out rfl
      obtain ⟨a0, y0⟩ := src_cell (w := wt) (i := 0) (v := (.string ⟨#[]⟩)) HRt.out rfl
      obtain ⟨a1, y1⟩ := src_cell (w := wt) (i := 1) (v := (.bool false)) HRt.out rfl
      obtain ⟨a2, y2⟩ := src_cell (w := wt) (i := 2) (v := (.string ⟨#[]⟩)) HRt.out rfl
      obtain ⟨a3, y3⟩ := src_cell (w := wt) (i := 3) (v := (.string ⟨#[]⟩)) HRt.out rfl
      obtain ⟨a4, y4⟩ := src_cell (w := wt) (i := 4) (v := (.string ⟨#[]⟩)) HRt.out rfl
      go_wp2
      have hr3 : (wt.setCell ⟨w1.heap.size, 2, none⟩ (.string t)).heap[w.heap.size]? = some (.cells affNil 26 (0, 0)) := (Below.heap_setCell _ _ _ _ (by show w.heap.size ≠ w1.heap.size; omega)).trans HRt.out
      have hk3 : Kept w1.heap.size (w1.heap.size + 1) wt (wt.setCell ⟨w1.heap.size, 2, none⟩ (.string t)) := kept_setCell (Nat.le_refl _) (Nat.lt_succ_self _) _
      have hz3 := hk3.size
      have HR := Lib.hid hr3
      have HSe := Lib.hid (HSt.out.low (hk3.below (by omega) (by omega)))
      have Ke := Lib.hid (Kt.out.then_new hk3 (by omega))
      have st := store5 HR.out (.string x.name) (.bool x.front) (.string t) (.string x.strip) (.string x.add)
      refine bodyPost_ret (v := .agg #[.string x.name, .bool x.front, .string t, .string x.strip, .string x.add]) (results_cell_row (p := 2) (ty := 26) rfl _ _ w.heap.size _ _ _ _ rfl st.1 Tryd.underlying26 rfl infoAffix) rfl
        ⟨{ x with cond := t }, kt, rfl, ⟨xn, (by simpa using ht20), xs, xa⟩, by omega, HSe.out.low (st.2.1.below (by omega) (by omega)), Ke.out.then_new st.2.1 (Nat.le_refl _)⟩
    · by_cases r2 : r = 2
      · subst r2
        obtain ⟨e0, z0⟩ := src_cell (w := w2) (i := 0) (v := (.string x.name)) HBox.out rfl
        obtain ⟨e1, z1⟩ := src_cell (w := w2) (i := 1) (v := (.bool x.front)) HBox.out rfl
        obtain ⟨e2, z2⟩ := src_cell (w := w2) (i := 2) (v := (.string x.cond)) HBox.out rfl
        obtain ⟨e3, z3⟩ := src_cell (w := w2) (i := 3) (v := (.string x.strip)) HBox.out rfl
        obtain ⟨e4, z4⟩ := src_cell (w := w2) (i := 4) (v := (.string x.add)) HBox.out rfl
        go_wp2_with fail
        have hb : Below w2.heap.size w2 (w2.alloc (.cells (([⟨#[97, 97, 97, 97, 97]⟩, ⟨#[46]⟩, x.add] : List ByteArray).map Value.string).toArray 9)) := (Below.refl _ _).alloc (Nat.le_refl _) _
        have HB := Lib.hid hb
        have hst := strs_built w2 [⟨#[97, 97, 97, 97, 97]⟩, ⟨#[46]⟩, x.add] (by simp) (by simp only [List.mem_cons, List.not_mem_nil, or_false]; intro s h; rcases h with rfl | rfl | rfl <;> first | decide | (unfold maxLen; omega))
        refine (text_any g bs k2 _ [⟨#[97, 97, 97, 97, 97]⟩, ⟨#[46]⟩, x.add] _ (HS2.out.below hb) (by omega) hst (by simp) (by simp) (fun a n c e p hp => ?_)).mono ?_
        · cases e; cases hp; show w2.heap.size ≠ g; omega
        rintro e wt ⟨t, kt, rfl, htm, hkt, hst2, hkkt⟩
        have hkkt : Kept g (g + 1) (w2.alloc (.cells (([⟨#[97, 97, 97, 97, 97]⟩, ⟨#[46]⟩, x.add] : List ByteArray).map Value.string).toArray 9)) wt := hkkt
        have ht20 : t.size ≤ 20 := by
          simp only [List.mem_cons, List.not_mem_nil, or_false] at htm
          rcases htm with rfl | rfl | rfl <;> first | decide | assumption
        have Kt := Lib.hid ((K2.out.trans (Kept.of_below (lo := g) (hi := g + 1) HB.out)).trans hkkt)
        have HSt := Lib.hid hst2
        have hzt : w2.heap.size + 1 ≤ wt.heap.size := by have := hkkt.size; simpa using this
        have hbox := (hkkt.block w1.heap.size (by simp; omega) (.inr (by omega))).trans ((HB.out.block w1.heap.size (by omega)).trans HBox.out)
        have hres := (hkkt.block w.heap.size (by simp; omega) (.inr (by omega))).trans ((HB.out.block w.heap.size (by omega)).trans HR2.out)
        have HBt := Lib.hid hbox
        have HRt := Lib.hid hres
        clear hkkt hst2 htm hst hb hbox hres e0 e1 e2 e3 e4 z0 z1 z2 z3 z4
        obtain ⟨e0, z0⟩ := src_cell (w := wt) (i := 0) (v := (.string x.name)) HBt.out rfl
        obtain ⟨e1, z1⟩ := src_cell (w := wt) (i := 1) (v := (.bool x.front)) HBt.out rfl
        obtain ⟨e2, z2⟩ := src_cell (w := wt) (i := 2) (v := (.string x.cond)) HBt.out rfl
        obtain ⟨e3, z3⟩ := src_cell (w := wt) (i := 3) (v := (.string x.strip)) HBt.out rfl
        obtain ⟨e4, z4⟩ := src_cell (w := wt) (i := 4) (v := (.string x.add)) HBt.out rfl
        obtain ⟨a0, y0⟩ := src_cell (w := wt) (i := 0) (v := (.string ⟨#[]⟩)) HRt.out rfl
        obtain ⟨a1, y1⟩ := src_cell (w := wt) (i := 1) (v := (.bool false)) HRt.out rfl
        obtain ⟨a2, y2⟩ := src_cell (w := wt) (i := 2) (v := (.string ⟨#[]⟩)) HRt.out rfl
        obtain ⟨a3, y3⟩ := src_cell (w := wt) (i := 3) (v := (.string ⟨#[]⟩)) HRt.out rfl
        obtain ⟨a4, y4⟩ := src_cell (w := wt) (i := 4) (v := (.string ⟨#[]⟩)) HRt.out rfl
        go_wp2
        have hr3 : (wt.setCell ⟨w1.heap.size, 3, none⟩ (.string t)).heap[w.heap.size]? = some (.cells affNil 26 (0, 0)) := (Below.heap_setCell _ _ _ _ (by show w.heap.size ≠ w1.heap.size; omega)).trans HRt.out
        have hk3 : Kept w1.heap.size (w1.heap.size + 1) wt (wt.setCell ⟨w1.heap.size, 3, none⟩ (.string t)) := kept_setCell (Nat.le_refl _) (Nat.lt_succ_self _) _
        have hz3 := hk3.size
        have HR := Lib.hid hr3
        have HSe := Lib.hid (HSt.out.low (hk3.below (by omega) (by omega)))
        have Ke := Lib.hid (Kt.out.then_new hk3 (by omega))
        have st := store5 HR.out (.string x.name) (.bool x.front) (.string x.cond) (.string t) (.string x.add)
        refine bodyPost_ret (v := .agg #[.string x.name, .bool x.front, .string x.cond, .string t, .string x.add]) (results_cell_row (p := 2) (ty := 26) rfl _ _ w.heap.size _ _ _ _ rfl st.1 Tryd.underlying26 rfl infoAffix) rfl
          ⟨{ x with strip := t }, kt, rfl, ⟨xn, xc, (by simpa using ht20), xa⟩, by omega, HSe.out.low (st.2.1.below (by omega) (by omega)), Ke.out.then_new st.2.1 (Nat.le_refl _)⟩
      · by_cases r3 : r = 3
        · subst r3
          obtain ⟨e0, z0⟩ := src_cell (w := w2) (i := 0) (v := (.string x.name)) HBox.out rfl
          obtain ⟨e1, z1⟩ := src_cell (w := w2) (i := 1) (v := (.bool x.front)) HBox.out rfl
          obtain ⟨e2, z2⟩ := src_cell (w := w2) (i := 2) (v := (.string x.cond)) HBox.out rfl
          obtain ⟨e3, z3⟩ := src_cell (w := w2) (i := 3) (v := (.string x.strip)) HBox.out rfl
          obtain ⟨e4, z4⟩ := src_cell (w := w2) (i := 4) (v := (.string x.add)) HBox.out rfl
          go_wp2_with fail
          have hb : Below w2.heap.size w2 (w2.alloc (.cells (([⟨#[97, 97, 97, 97, 97]⟩, ⟨#[97, 97, 97, 97]⟩, ⟨#[49]⟩, x.strip] : List ByteArray).map Value.string).toArray 9)) := (Below.refl _ _).alloc (Nat.le_refl _) _
          have HB := Lib.hid hb
          have hst := strs_built w2 [⟨#[97, 97, 97, 97, 97]⟩, ⟨#[97, 97, 97, 97]⟩, ⟨#[49]⟩, x.strip] (by simp) (by simp only [List.mem_cons, List.not_mem_nil, or_false]; intro s h; rcases h with rfl | rfl | rfl | rfl <;> first | decide | (unfold maxLen; omega))
          refine (text_any g bs k2 _ [⟨#[97, 97, 97, 97, 97]⟩, ⟨#[97, 97, 97, 97]⟩, ⟨#[49]⟩, x.strip] _ (HS2.out.below hb) (by omega) hst (by simp) (by simp) (fun a n c e p hp => ?_)).mono ?_
          · cases e; cases hp; show w2.heap.size ≠ g; omega
          rintro e wt ⟨t, kt, rfl, htm, hkt, hst2, hkkt⟩
          have hkkt : Kept g (g + 1) (w2.alloc (.cells (([⟨#[97, 97, 97, 97, 97]⟩, ⟨#[97, 97, 97, 97]⟩, ⟨#[49]⟩, x.strip] : List ByteArray).map Value.string).toArray 9)) wt := hkkt
          have ht20 : t.size ≤ 20 := by
            simp only [List.mem_cons, List.not_mem_nil, or_false] at htm
            rcases htm with rfl | rfl | rfl | rfl <;> first | decide | assumption
          have Kt := Lib.hid ((K2.out.trans (Kept.of_below (lo := g) (hi := g + 1) HB.out)).trans hkkt)
          have HSt := Lib.hid hst2
          have hzt : w2.heap.size + 1 ≤ wt.heap.size := by have := hkkt.size; simpa using this
          have hbox := (hkkt.block w1.heap.size (by simp; omega) (.inr (by omega))).trans ((HB.out.block w1.heap.size (by omega)).trans HBox.out)
          have hres := (hkkt.block w.heap.size (by simp; omega) (.inr (by omega))).trans ((HB.out.block w.heap.size (by omega)).trans HR2.out)
          have HBt := Lib.hid hbox
          have HRt := Lib.hid hres
          clear hkkt hst2 htm hst hb hbox hres e0 e1 e2 e3 e4 z0 z1 z2 z3 z4
          obtain ⟨e0, z0⟩ := src_cell (w := wt) (i := 0) (v := (.string x.name)) HBt.out rfl
          obtain ⟨e1, z1⟩ := src_cell (w := wt) (i := 1) (v := (.bool x.front)) HBt.out rfl
          obtain ⟨e2, z2⟩ := src_cell (w := wt) (i := 2) (v := (.string x.cond)) HBt.out rfl
          obtain ⟨e3, z3⟩ := src_cell (w := wt) (i := 3) (v := (.string x.strip)) HBt.out rfl
          obtain ⟨e4, z4⟩ := src_cell (w := wt) (i := 4) (v := (.string x.add)) HBt.out rfl
          obtain ⟨a0, y0⟩ := src_cell (w := wt) (i := 0) (v := (.string ⟨#[]⟩)) HRt.out rfl
          obtain ⟨a1, y1⟩ := src_cell (w := wt) (i := 1) (v := (.bool false)) HRt.out rfl
          obtain ⟨a2, y2⟩ := src_cell (w := wt) (i := 2) (v := (.string ⟨#[]⟩)) HRt.out rfl
          obtain ⟨a3, y3⟩ := src_cell (w := wt) (i := 3) (v := (.string ⟨#[]⟩)) HRt.out rfl
          obtain ⟨a4, y4⟩ := src_cell (w := wt) (i := 4) (v := (.string ⟨#[]⟩)) HRt.out rfl
          go_wp2
          have hr3 : (wt.setCell ⟨w1.heap.size, 4, none⟩ (.string t)).heap[w.heap.size]? = some (.cells affNil 26 (0, 0)) := (Below.heap_setCell _ _ _ _ (by show w.heap.size ≠ w1.heap.size; omega)).trans HRt.out
          have hk3 : Kept w1.heap.size (w1.heap.size + 1) wt (wt.setCell ⟨w1.heap.size, 4, none⟩ (.string t)) := kept_setCell (Nat.le_refl _) (Nat.lt_succ_self _) _
          have hz3 := hk3.size
          have HR := Lib.hid hr3
          have HSe := Lib.hid (HSt.out.low (hk3.below (by omega) (by omega)))
          have Ke := Lib.hid (Kt.out.then_new hk3 (by omega))
          have st := store5 HR.out (.string x.name) (.bool x.front) (.string x.cond) (.string x.strip) (.string t)
          refine bodyPost_ret (v := .agg #[.string x.name, .bool x.front, .string x.cond, .string x.strip, .string t]) (results_cell_row (p := 2) (ty := 26) rfl _ _ w.heap.size _ _ _ _ rfl st.1 Tryd.underlying26 rfl infoAffix) rfl
            ⟨{ x with add := t }, kt, rfl, ⟨xn, xc, xs, (by simpa using ht20)⟩, by omega, HSe.out.low (st.2.1.below (by omega) (by omega)), Ke.out.then_new st.2.1 (Nat.le_refl _)⟩
        · have q0 : ((r : Int) == 0) = false := by simp; omega
          have q1 : ((r : Int) == 1) = false := by simp; omega
          have q2 : ((r : Int) == 2) = false := by simp; omega
          have q3 : ((r : Int) == 3) = false := by simp; omega
          clear r0 r1 r2 r3
          obtain ⟨e0, z0⟩ := src_cell (w := w2) (i := 0) (v := (.string x.name)) HBox.out rfl
          obtain ⟨e1, z1⟩ := src_cell (w := w2) (i := 1) (v := (.bool x.front)) HBox.out rfl
          obtain ⟨e2, z2⟩ := src_cell (w := w2) (i := 2) (v := (.string x.cond)) HBox.out rfl
          obtain ⟨e3, z3⟩ := src_cell (w := w2) (i := 3) (v := (.string x.strip)) HBox.out rfl
          obtain ⟨e4, z4⟩ := src_cell (w := w2) (i := 4) (v := (.string x.add)) HBox.out rfl
          obtain ⟨a0, y0⟩ := src_cell (w := w2) (i := 0) (v := (.string ⟨#[]⟩)) HR2.out rfl
          obtain ⟨a1, y1⟩ := src_cell (w := w2) (i := 1) (v := (.bool false)) HR2.out rfl
          obtain ⟨a2, y2⟩ := src_cell (w := w2) (i := 2) (v := (.string ⟨#[]⟩)) HR2.out rfl
          obtain ⟨a3, y3⟩ := src_cell (w := w2) (i := 3) (v := (.string ⟨#[]⟩)) HR2.out rfl
          obtain ⟨a4, y4⟩ := src_cell (w := w2) (i := 4) (v := (.string ⟨#[]⟩)) HR2.out rfl
          go_wp2
          have HR := Lib.hid HR2.out
          have HSe := Lib.hid HS2.out
          have Ke := Lib.hid K2.out
          have st := store5 HR.out (.string x.name) (.bool x.front) (.string x.cond) (.string x.strip) (.string x.add)
          refine bodyPost_ret (v := .agg #[.string x.name, .bool x.front, .string x.cond, .string x.strip, .string x.add]) (results_cell_row (p := 2) (ty := 26) rfl _ _ w.heap.size _ _ _ _ rfl st.1 Tryd.underlying26 rfl infoAffix) rfl
            ⟨x, k2, rfl, ⟨xn, xc, xs, xa⟩, by omega, HSe.out.low (st.2.1.below (by omega) (by omega)), Ke.out.then_new st.2.1 (Nat.le_refl _)⟩
end Go.Proofs.YtjefmicahadijaaDoor
