/- FnAffixes: the drawn affix and word. Condition: few choices so far. -/
import Derived.Test.YtjefmicahadijaaDoorAfL
import Derived.Test.YtjefmicahadijaaDoorDr
import Derived.Laws.ResultCell
import Derived.Laws.Rows
namespace Go.Proofs.YtjefmicahadijaaDoor
open Go.RowKit
/-- A struct of five cells, stored. -/
theorem store5 {w : World} {g : Nat} {x0 x1 x2 x3 x4 : Value} {t : TypeId} {fr : Nat × Nat} (h : w.heap[g]? = some (.cells #[x0, x1, x2, x3, x4] t fr)) (a b c d e : Value) :
    (((((w.setCell ⟨g, 0, none⟩ a).setCell ⟨g, 1, none⟩ b).setCell ⟨g, 2, none⟩ c).setCell ⟨g, 3, none⟩ d).setCell ⟨g, 4, none⟩ e).heap[g]? = some (.cells #[a, b, c, d, e] t fr) ∧
    Kept g (g + 1) w (((((w.setCell ⟨g, 0, none⟩ a).setCell ⟨g, 1, none⟩ b).setCell ⟨g, 2, none⟩ c).setCell ⟨g, 3, none⟩ d).setCell ⟨g, 4, none⟩ e) ∧
    (((((w.setCell ⟨g, 0, none⟩ a).setCell ⟨g, 1, none⟩ b).setCell ⟨g, 2, none⟩ c).setCell ⟨g, 3, none⟩ d).setCell ⟨g, 4, none⟩ e).heap.size = w.heap.size := by
  refine ⟨by simpa using src_set (i := 4) (u := e) (src_set (i := 3) (u := d) (src_set (i := 2) (u := c) (src_set (i := 1) (u := b) (src_set (i := 0) (u := a) h)))), ?_, by simp [World.setCell]⟩
  exact ((((kept_setCell (Nat.le_refl _) (Nat.lt_succ_self _) _).trans (kept_setCell (Nat.le_refl _) (Nat.lt_succ_self _) _)).trans (kept_setCell (Nat.le_refl _) (Nat.lt_succ_self _) _)).trans (kept_setCell (Nat.le_refl _) (Nat.lt_succ_self _) _)).trans (kept_setCell (Nat.le_refl _) (Nat.lt_succ_self _) _)
/-- The cells of an affix. -/
def affV (x : AffD) : Array Value := #[.string x.name, .bool x.front, .string x.cond, .string x.strip, .string x.add]
def affNil : Array Value := #[.string ⟨#[]⟩, .bool false, .string ⟨#[]⟩, .string ⟨#[]⟩, .string ⟨#[]⟩]
def drawList : List AffD := [⟨⟨#[]⟩, false, ⟨#[]⟩, ⟨#[]⟩, ⟨#[115]⟩⟩, ⟨⟨#[]⟩, false, ⟨#[46, 121]⟩, ⟨#[121]⟩, ⟨#[105, 101, 115]⟩⟩, ⟨⟨#[]⟩, false, ⟨#[101]⟩, ⟨#[101]⟩, ⟨#[105, 110, 103]⟩⟩, ⟨⟨#[]⟩, false, ⟨#[116]⟩, ⟨#[]⟩, ⟨#[101, 114]⟩⟩,
  ⟨⟨#[]⟩, true, ⟨#[]⟩, ⟨#[]⟩, ⟨#[114, 101]⟩⟩, ⟨⟨#[]⟩, true, ⟨#[97]⟩, ⟨#[]⟩, ⟨#[117, 110]⟩⟩, ⟨⟨#[]⟩, false, ⟨#[110]⟩, ⟨#[]⟩, ⟨#[110, 105, 110, 103]⟩⟩, ⟨⟨#[]⟩, true, ⟨#[115]⟩, ⟨#[115]⟩, ⟨#[116]⟩⟩, ⟨⟨#[]⟩, false, ⟨#[46, 46, 46]⟩, ⟨#[97, 116]⟩, ⟨#[101, 116]⟩⟩]
def drawRow : Array Value := (drawList.flatMap fun x => (affV x).toList).toArray
theorem drawRow_at (r : Nat) (h : r < 9) : ∃ x : AffD, AffLim x 20 ∧ drawRow[r * 5]? = some (.string x.name) ∧ drawRow[r * 5 + 1]? = some (.bool x.front) ∧ drawRow[r * 5 + 2]? = some (.string x.cond) ∧ drawRow[r * 5 + 3]? = some (.string x.strip) ∧ drawRow[r * 5 + 4]? = some (.string x.add) := by
  match r, h with
  | 0, _ | 1, _ | 2, _ | 3, _ | 4, _ | 5, _ | 6, _ | 7, _ | 8, _ => exact ⟨⟨_, _, _, _, _⟩, ⟨by decide, by decide, by decide, by decide⟩, rfl, rfl, rfl, rfl, rfl⟩
theorem infoAffix : (Tryd.prog.info? 26).map (·.size) = some 5 := by kernel_rfl
attribute [local irreducible] Calls
set_option maxHeartbeats 4000000 in
set_option maxRecDepth 20000 in
theorem drawAffix_any (g : Nat) (bs : List UInt8) (k : Nat) (w : World) (hs : SrcW w g bs k) (hk : k ≤ 100000) :
    Calls Tryd.prog 116 #[.pointer (some ⟨g, 0, none⟩)] w fun e w' => ∃ (x : AffD) (k' : Nat), e = .returned (.agg #[.string x.name, .bool x.front, .string x.cond, .string x.strip, .string x.add]) ∧ AffLim x 20 ∧ k' ≤ k + 4 ∧ SrcW w' g bs k' ∧ Kept g (g + 1) w w' := by
  have hgl := hs.lt
  have hb0 : Below w.heap.size w ((w.alloc (.cells affNil 26)).alloc (.cells drawRow 26)) := ((Below.refl _ _).alloc (Nat.le_refl _) _).alloc (by simp) _
  have rA := heap_alloc2_old w (.cells affNil 26) (.cells drawRow 26)
  have rB := heap_alloc2_new w (.cells affNil 26) (.cells drawRow 26)
  go_enter Tryd.func116, Tryd.ntmps116
  go_wp2_with fail
  refine (pick_any g bs k 9 _ _ (hs.below (((Below.refl _ _).alloc (Nat.le_refl _) _).alloc (by simp) _)) (by omega) rfl (by omega)).mono ?_
  rintro e w1 ⟨r, k1, rfl, hr, hk1, hs1, hkk1⟩
  have hkk1 : Kept g (g + 1) ((w.alloc (.cells affNil 26)).alloc (.cells drawRow 26)) w1 := hkk1
  have hr9 : r < 9 := by omega
  have hrI : (r : Int) < 9 := by omega
  obtain ⟨x, hx, q0, q1, q2, q3, q4⟩ := drawRow_at r hr9
  have hrow := (hkk1.block (w.heap.size + 1) (by simp) (.inr (by omega))).trans rB
  have hres := (hkk1.block w.heap.size (by simp; omega) (.inr (by omega))).trans rA
  have hz1 : w.heap.size + 2 ≤ w1.heap.size := by have := hkk1.size; simpa using this
  have K1 := Lib.hid ((Kept.of_below (lo := g) (hi := g + 1) hb0).trans hkk1)
  have HS1 := Lib.hid hs1
  have HRes := Lib.hid hres
  have d0 := (src_cell hrow q0).1
  have d1 := (src_cell hrow q1).1
  have d2 := (src_cell hrow q2).1
  have d3 := (src_cell hrow q3).1
  have d4 := (src_cell hrow q4).1
  have HX := Lib.hid hx
  clear hkk1 rA rB hb0 hrow hres hs1 q0 q1 q2 q3 q4 hs hx
  go_wp2_with fail
  have hb1 : Below w1.heap.size w1 ((w1.alloc (.cells (affV x) 26)).alloc (.cells (([⟨#[112, 108, 117, 114, 97, 108]⟩, ⟨#[97, 99, 116]⟩, ⟨#[101, 114]⟩, ⟨#[114, 101]⟩, ⟨#[117, 110]⟩, ⟨#[120]⟩] : List ByteArray).map Value.string).toArray 9)) := ((Below.refl _ _).alloc (Nat.le_refl _) _).alloc (by simp) _
  have HB1 := Lib.hid hb1
  have hst := strs_built (w1.alloc (.cells (affV x) 26)) [⟨#[112, 108, 117, 114, 97, 108]⟩, ⟨#[97, 99, 116]⟩, ⟨#[101, 114]⟩, ⟨#[114, 101]⟩, ⟨#[117, 110]⟩, ⟨#[120]⟩] (by decide)
  have rB := heap_alloc2_old w1 (.cells (affV x) 26) (.cells (([⟨#[112, 108, 117, 114, 97, 108]⟩, ⟨#[97, 99, 116]⟩, ⟨#[101, 114]⟩, ⟨#[114, 101]⟩, ⟨#[117, 110]⟩, ⟨#[120]⟩] : List ByteArray).map Value.string).toArray 9)
  rw [World.size_alloc] at hst
  refine (text_any g bs k1 _ [⟨#[112, 108, 117, 114, 97, 108]⟩, ⟨#[97, 99, 116]⟩, ⟨#[101, 114]⟩, ⟨#[114, 101]⟩, ⟨#[117, 110]⟩, ⟨#[120]⟩] _ (HS1.out.below hb1) (by omega) hst (by decide) (by decide) (fun a n c e p hp => ?_)).mono ?_
  · cases e; cases hp; show w1.heap.size + 1 ≠ g; omega
  rintro e w2 ⟨t, k2, rfl, htm, hk2, hs2, hkk2⟩
  have ht20 : t.size ≤ 20 := by
    simp only [List.mem_cons, List.not_mem_nil, or_false] at htm
    rcases htm with rfl | rfl | rfl | rfl | rfl | rfl <;> decide
  have hkk2 : Kept g (g + 1) ((w1.alloc (.cells (affV x) 26)).alloc (.cells (([⟨#[112, 108, 117, 114, 97, 108]⟩, ⟨#[97, 99, 116]⟩, ⟨#[101, 114]⟩, ⟨#[114, 101]⟩, ⟨#[117, 110]⟩, ⟨#[120]⟩] : List ByteArray).map Value.string).toArray 9)) w2 := hkk2
  have hbox := (hkk2.block w1.heap.size (by simp; omega) (.inr (by omega))).trans rB
  have hres := ((hkk2.block w.heap.size (by simp; omega) (.inr (by omega))).trans (HB1.out.block w.heap.size (by omega))).trans HRes.out
  have K2 := Lib.hid ((K1.out.trans (Kept.of_below (lo := g) (hi := g + 1) HB1.out)).trans hkk2)
  have HS2 := Lib.hid hs2
  have hz2 : w1.heap.size + 2 ≤ w2.heap.size := by have := hkk2.size; simpa using this
  have HBox := Lib.hid hbox
  have HRes2 := Lib.hid hres
  obtain ⟨e0, z0⟩ := src_cell (i := 0) (v := .string x.name) hbox rfl
  obtain ⟨e1, z1⟩ := src_cell (i := 1) (v := .bool x.front) hbox rfl
  obtain ⟨e2, z2⟩ := src_cell (i := 2) (v := .string x.cond) hbox rfl
  obtain ⟨e3, z3⟩ := src_cell (i := 3) (v := .string x.strip) hbox rfl
  obtain ⟨e4, z4⟩ := src_cell (i := 4) (v := .string x.add) hbox rfl
  obtain ⟨a0, y0⟩ := src_cell (i := 0) (v := .string ⟨#[]⟩) hres rfl
  obtain ⟨a1, y1⟩ := src_cell (i := 1) (v := .bool false) hres rfl
  obtain ⟨a2, y2⟩ := src_cell (i := 2) (v := .string ⟨#[]⟩) hres rfl
  obtain ⟨a3, y3⟩ := src_cell (i := 3) (v := .string ⟨#[]⟩) hres rfl
  obtain ⟨a4, y4⟩ := src_cell (i := 4) (v := .string ⟨#[]⟩) hres rfl
  have hne : ¬ (w1.heap.size = w.heap.size) := by omega
  have hne2 : ¬ (w.heap.size = w1.heap.size) := by omega
  clear hkk2 rB hb1 hst hbox hres hs2 htm d0 d1 d2 d3 d4
  go_wp2
  have hr3 : (w2.setCell ⟨w1.heap.size, 0, none⟩ (.string t)).heap[w.heap.size]? = some (.cells affNil 26 (0, 0)) := (Below.heap_setCell _ _ _ _ (by show w.heap.size ≠ w1.heap.size; omega)).trans HRes2.out
  have st := store5 hr3 (.string t) (.bool x.front) (.string x.cond) (.string x.strip) (.string x.add)
  have hk3 : Kept w1.heap.size (w1.heap.size + 1) w2 (w2.setCell ⟨w1.heap.size, 0, none⟩ (.string t)) := kept_setCell (Nat.le_refl _) (Nat.lt_succ_self _) _
  have hz3 := hk3.size
  refine bodyPost_ret (v := .agg #[.string t, .bool x.front, .string x.cond, .string x.strip, .string x.add]) (results_cell_row (p := 2) (ty := 26) rfl _ _ w.heap.size _ _ _ _ rfl st.1 Tryd.underlying26 rfl infoAffix) rfl
    ⟨{ x with name := t }, k2, rfl, ⟨ht20, HX.out.c, HX.out.s, HX.out.a⟩, by omega, (HS2.out.low (hk3.below (by omega) (by omega))).low (st.2.1.below (by omega) (by omega)), (K2.out.then_new hk3 (by omega)).then_new st.2.1 (Nat.le_refl _)⟩
end Go.Proofs.YtjefmicahadijaaDoor
