/- ReadTiles: a word of the reference's reading (l02Word). No condition but the readings. -/
import Derived.Test.YtinmmbnlflmobaaGreatDoorTo
import Derived.Test.YtinmmbnlflmobaaGreatDoorSw
namespace Go.Proofs.YtinmmbnlflmobaaGreatDoor
open Go.RowKit
theorem OwnT.cells {w : World} {g x v1 v2} (h : OwnT w g x v1 v2) : w.cell? ⟨g, 0, none⟩ = some (.string x.letters) ∧ w.cell? ⟨g, 1, none⟩ = some v1 ∧ w.cell? ⟨g, 2, none⟩ = some v2 ∧ w.cell? ⟨g, 3, none⟩ = some (.int .i64 x.blanks) := by
  have hb := h.box
  exact ⟨by simp [World.cell?, hb], by simp [World.cell?, hb], by simp [World.cell?, hb], by simp [World.cell?, hb]⟩
/-- What l02Word gives: whether the word was read, and then the set in the box. -/
def WordQ (g : Nat) (x : TileD) (v1 v2 : Value) (s : ByteArray) (w : World) (e : Ending) (w' : World) : Prop :=
  ∃ b v1' v2', e = .returned (.bool b) ∧ KeepT g v1 v2 w w' ∧ (v1'.ownBlock = v1.ownBlock ∨ ∃ k, v1'.ownBlock = some k ∧ w.heap.size ≤ k) ∧ (v2'.ownBlock = v2.ownBlock ∨ ∃ k, v2'.ownBlock = some k ∧ w.heap.size ≤ k) ∧
    ((b = false ∧ specStep x s.data.toList = none) ∨ (b = true ∧ ∃ x', specStep x s.data.toList = some x' ∧ (x'.letters.size ≤ x.letters.size + 1) ∧ (x'.letters.size ≤ 27 → OwnT w' g x' v1' v2')))
theorem WordQ.no {g : Nat} {x : TileD} {v1 v2 : Value} {s : ByteArray} {w w' : World} (h : specStep x s.data.toList = none) (hb : Below w.heap.size w w') : WordQ g x v1 v2 s w (.returned (.bool false)) w' :=
  ⟨false, v1, v2, rfl, KeepT.of_below hb, .inl rfl, .inl rfl, .inl ⟨rfl, h⟩⟩
theorem OwnT.frozen {w : World} {g x v1 v2} (h : OwnT w g x v1 v2) (i : Nat) : w.frozen? ⟨g, i, none⟩ = false := by have hb := h.box; simp [World.frozen?, hb]
theorem own_set {w : World} {B e size : Nat} {v : Value} {n : Nat} {xs : List Value} (h : w.ownsRow B e size v n xs) {g i : Nat} (u : Value) (hg : g < B) : (w.setCell ⟨g, i, none⟩ u).ownsRow B e size v n xs := by
  refine World.ownsRow.kept (row := some g) h ⟨rfl, rfl, rfl, by simp [World.setCell], fun k _ hne => Below.heap_setCell _ _ _ _ (by show k ≠ g; intro e; exact hne (by rw [e]))⟩ ?_
  right
  intro e
  have := (World.ownsRow.lt h g e).1
  omega
theorem KeepT.set {g i : Nat} {v1 v2 u : Value} {w : World} : KeepT g v1 v2 w (w.setCell ⟨g, i, none⟩ u) :=
  ⟨rfl, rfl, rfl, by simp [World.setCell], fun k _ hne _ _ => Below.heap_setCell _ _ _ _ (by show k ≠ g; exact hne)⟩
theorem KeepT.trans {g : Nat} {v1 v2 : Value} {a b c : World} (h : KeepT g v1 v2 a b) (k : KeepT g v1 v2 b c) : KeepT g v1 v2 a c :=
  ⟨k.os.trans h.os, k.tape.trans h.tape, k.output.trans h.output, Nat.le_trans h.size k.size, fun i hi h1 h2 h3 => (k.block i (Nat.lt_of_lt_of_le hi h.size) h1 h2 h3).trans (h.block i hi h1 h2 h3)⟩
theorem OwnT.setBlanks {w : World} {g x v1 v2} (h : OwnT w g x v1 v2) {n : Int} (hn : I64 n) : OwnT (w.setCell ⟨g, 3, none⟩ (.int .i64 n)) g { x with blanks := n } v1 v2 := by
  refine ⟨?_, own_set h.o1 _ (Nat.lt_succ_self g), own_set h.o2 _ (Nat.lt_succ_self g), h.ne, h.ls, h.lv, h.lc, hn, h.kv, h.kc⟩
  have hb := h.box
  simp [World.setCell, Array.getElem?_modify, hb]
theorem box_cell {w : World} {g i : Nat} {cs : Array Value} {t : TypeId} {v : Value} (h : w.heap[g]? = some (.cells cs t (0, 0))) (hv : cs[i]? = some v) : w.cell? ⟨g, i, none⟩ = some v ∧ w.frozen? ⟨g, i, none⟩ = false := by
  exact ⟨by simp [World.cell?, h, hv], by simp [World.frozen?, h]⟩
theorem box_set {w : World} {g i : Nat} {cs : Array Value} {t : TypeId} {fr : Nat × Nat} {u : Value} (h : w.heap[g]? = some (.cells cs t fr)) : (w.setCell ⟨g, i, none⟩ u).heap[g]? = some (.cells (cs.setIfInBounds i u) t fr) := by
  simp [World.setCell, Array.getElem?_modify, h]
theorem KeepT.grown1 {g : Nat} {v1 v2 : Value} {w w' : World} (h : w.grownBy w' v1.ownBlock) : KeepT g v1 v2 w w' := ⟨h.os, h.tape, h.output, h.size, fun k hk _ h1 _ => h.block k hk h1⟩
theorem KeepT.grown2 {g : Nat} {v1 v2 : Value} {w w' : World} (h : w.grownBy w' v2.ownBlock) : KeepT g v1 v2 w w' := ⟨h.os, h.tape, h.output, h.size, fun k hk _ _ h1 => h.block k hk h1⟩
/-- Behind the two appends. -/
theorem word_done {g g5 cap5 g7 cap7 : Nat} {x : TileD} {v1 v2 : Value} {l : ByteArray} {n m : Int} {w w4 w5 w7 : World}
    (HK : KeepT g v1 v2 w w4) (_q1 : OwnI w4 (g + 1) v1 x.values) (q2 : OwnI w4 (g + 1) v2 x.counts) (ne : v1.ownBlock = none ∨ v1.ownBlock ≠ v2.ownBlock)
    (hown5 : OwnI w5 (g + 1) (.slice (some ⟨g5, 0, none⟩) (x.values.length + 1) cap5) (x.values ++ [n])) (hg5 : w4.grownBy w5 v1.ownBlock) (hloc5 : some g5 = v1.ownBlock ∨ w4.heap.size ≤ g5)
    (hown7 : OwnI w7 (g + 1) (.slice (some ⟨g7, 0, none⟩) (x.counts.length + 1) cap7) (x.counts ++ [m]))
    (hg7 : (w5.setCell ⟨g, 1, none⟩ (.slice (some ⟨g5, 0, none⟩) (x.values.length + 1) cap5)).grownBy w7 v2.ownBlock)
    (hloc7 : some g7 = v2.ownBlock ∨ (w5.setCell ⟨g, 1, none⟩ (.slice (some ⟨g5, 0, none⟩) (x.values.length + 1) cap5)).heap.size ≤ g7)
    (b7 : w7.heap[g]? = some (.cells #[.string l, .slice (some ⟨g5, 0, none⟩) (x.values.length + 1) cap5, v2, .int .i64 x.blanks] 26 (0, 0)))
    (kb : I64 x.blanks) (kv : ∀ z ∈ x.values, I64 z) (kc : ∀ z ∈ x.counts, I64 z) (kn : I64 n) (km : I64 m) (lv : x.values.length + 1 = l.size) (lc : x.counts.length + 1 = l.size) :
    KeepT g v1 v2 w (w7.setCell ⟨g, 2, none⟩ (.slice (some ⟨g7, 0, none⟩) (x.counts.length + 1) cap7)) ∧ (some g5 = v1.ownBlock ∨ w.heap.size ≤ g5) ∧ (some g7 = v2.ownBlock ∨ w.heap.size ≤ g7) ∧
    (l.size ≤ 27 → OwnT (w7.setCell ⟨g, 2, none⟩ (.slice (some ⟨g7, 0, none⟩) (x.counts.length + 1) cap7)) g { letters := l, values := x.values ++ [n], counts := x.counts ++ [m], blanks := x.blanks }
      (.slice (some ⟨g5, 0, none⟩) (x.values.length + 1) cap5) (.slice (some ⟨g7, 0, none⟩) (x.counts.length + 1) cap7)) := by
  have hz6 : (w5.setCell ⟨g, 1, none⟩ (.slice (some ⟨g5, 0, none⟩) (x.values.length + 1) cap5)).heap.size = w5.heap.size := by simp [World.setCell]
  rw [hz6] at hloc7
  have s1 := HK.size
  have s2 := hg5.size
  have lt5 := (World.ownsRow.lt hown5 g5 rfl).2
  have h57 : some g5 ≠ v2.ownBlock := by
    intro e
    have h2 := (World.ownsRow.lt q2 g5 e.symm).2
    rcases hloc5 with h | h
    · rcases ne with h' | h'
      · rw [h'] at h; cases h
      · exact h' (h.symm.trans e)
    · omega
  have hne : g5 ≠ g7 := by
    intro e
    subst e
    rcases hloc7 with h | h
    · exact h57 h
    · omega
  refine ⟨(((HK.trans (KeepT.grown1 hg5)).trans KeepT.set).trans (KeepT.grown2 hg7)).trans KeepT.set, hloc5.imp id fun h => by omega, hloc7.imp id fun h => by omega, fun hl => ?_⟩
  refine ⟨by simpa using box_set (i := 2) (u := .slice (some ⟨g7, 0, none⟩) (x.counts.length + 1) cap7) b7, ?_, ?_, ?_, hl, by simp; omega, by simp; omega, kb, ?_, ?_⟩
  · exact own_set (World.ownsRow.kept (own_set hown5 _ (Nat.lt_succ_self g)) hg7 (.inr h57)) _ (Nat.lt_succ_self g)
  · exact own_set hown7 _ (Nat.lt_succ_self g)
  · right; intro e; exact hne (Option.some.inj e)
  · intro z hz; rcases List.mem_append.1 hz with h | h
    · exact kv z h
    · simp at h; subst h; exact kn
  · intro z hz; rcases List.mem_append.1 hz with h | h
    · exact kc z h
    · simp at h; subst h; exact km
theorem step_q {x : TileD} {s b : ByteArray} (h : twoP s.data.toList = some ([63], b.data.toList)) : specStep x s.data.toList = if rdB b = true ∧ 0 < rdN b then some { x with blanks := rdN b } else none := by
  unfold specStep; rw [h]; simp only [if_true]; rfl
theorem step_w {x : TileD} {s a b t1 l1 : ByteArray} (h : twoP s.data.toList = some (a.data.toList, b.data.toList)) (hq : a.data.toList ≠ [63]) (ht : t1.data.toList = a.data.toList.drop 1) (hl : l1.data.toList = a.data.toList.take 1) :
    specStep x s.data.toList = if rdB b = true ∧ rdB t1 = true ∧ x.blanks = 0 then some { letters := x.letters ++ l1, values := x.values ++ [rdN t1], counts := x.counts ++ [rdN b], blanks := x.blanks } else none := by
  unfold specStep rdB rdN; rw [h]; simp only [if_neg hq]; rw [ht, ← hl]
theorem rdN_I (b : ByteArray) : I64 (rdN b) := by
  unfold rdN readD
  split
  · exact I64.zero
  · split
    · exact I64.zero
    · split
      · rename_i h1 h2 _
        have := valD_lt h1 (by simpa using h2)
        unfold I64
        simp only [Option.getD_some]
        omega
      · exact I64.zero
theorem step_none {x : TileD} {l : List UInt8} (h : twoP l = none) : specStep x l = none := by unfold specStep; rw [h]
theorem WordQ.q {g : Nat} {x : TileD} {v1 v2 : Value} {s b : ByteArray} {w w2 : World} (HP : twoP s.data.toList = some ([63], b.data.toList)) (HB : Below w.heap.size w w2) (HT : OwnT w2 g x v1 v2) (r : Bool) (hr : r = (rdB b && decide (0 < rdN b))) :
    WordQ g x v1 v2 s w (.returned (.bool r)) (w2.setCell ⟨g, 3, none⟩ (.int .i64 (rdN b))) := by
  refine ⟨r, v1, v2, rfl, (KeepT.of_below HB).trans KeepT.set, .inl rfl, .inl rfl, ?_⟩
  rw [step_q HP]
  by_cases h : rdB b = true ∧ 0 < rdN b
  · exact .inr ⟨by rw [hr, h.1]; simpa using h.2, _, by rw [if_pos h], by simp, fun _ => HT.setBlanks (rdN_I b)⟩
  · refine .inl ⟨?_, by rw [if_neg h]⟩
    rw [hr]
    cases hb : rdB b
    · rfl
    · simp only [Bool.true_and, decide_eq_false_iff_not]
      intro h2; exact h ⟨hb, h2⟩
theorem WordQ.w {g g5 cap5 g7 cap7 : Nat} {x : TileD} {v1 v2 : Value} {l1 t1 b s : ByteArray} {w w4 w5 w7 : World}
    (HW : specStep x s.data.toList = if rdB b = true ∧ rdB t1 = true ∧ x.blanks = 0 then some { letters := x.letters ++ l1, values := x.values ++ [rdN t1], counts := x.counts ++ [rdN b], blanks := x.blanks } else none) (hl1 : l1.size = 1)
    (r : Bool) (hr : r = (rdB b && (rdB t1 && decide (x.blanks = 0))))
    (HK : KeepT g v1 v2 w w4) (q1 : OwnI w4 (g + 1) v1 x.values) (q2 : OwnI w4 (g + 1) v2 x.counts) (ne : v1.ownBlock = none ∨ v1.ownBlock ≠ v2.ownBlock)
    (hown5 : OwnI w5 (g + 1) (.slice (some ⟨g5, 0, none⟩) (x.values.length + 1) cap5) (x.values ++ [rdN t1])) (hg5 : w4.grownBy w5 v1.ownBlock) (hloc5 : some g5 = v1.ownBlock ∨ w4.heap.size ≤ g5)
    (hown7 : OwnI w7 (g + 1) (.slice (some ⟨g7, 0, none⟩) (x.counts.length + 1) cap7) (x.counts ++ [rdN b]))
    (hg7 : (w5.setCell ⟨g, 1, none⟩ (.slice (some ⟨g5, 0, none⟩) (x.values.length + 1) cap5)).grownBy w7 v2.ownBlock)
    (hloc7 : some g7 = v2.ownBlock ∨ (w5.setCell ⟨g, 1, none⟩ (.slice (some ⟨g5, 0, none⟩) (x.values.length + 1) cap5)).heap.size ≤ g7)
    (b7 : w7.heap[g]? = some (.cells #[.string (x.letters ++ l1), .slice (some ⟨g5, 0, none⟩) (x.values.length + 1) cap5, v2, .int .i64 x.blanks] 26 (0, 0)))
    (kb : I64 x.blanks) (kv : ∀ z ∈ x.values, I64 z) (kc : ∀ z ∈ x.counts, I64 z) (lv : x.values.length = x.letters.size) (lc : x.counts.length = x.letters.size) :
    WordQ g x v1 v2 s w (.returned (.bool r)) (w7.setCell ⟨g, 2, none⟩ (.slice (some ⟨g7, 0, none⟩) (x.counts.length + 1) cap7)) := by
  have hsz : (x.letters ++ l1).size = x.letters.size + 1 := by simp [hl1]
  obtain ⟨k1, k2, k3, k4⟩ := word_done HK q1 q2 ne hown5 hg5 hloc5 hown7 hg7 hloc7 b7 kb kv kc (rdN_I t1) (rdN_I b) (by rw [hsz, lv]) (by rw [hsz, lc])
  refine ⟨r, .slice (some ⟨g5, 0, none⟩) (x.values.length + 1) cap5, .slice (some ⟨g7, 0, none⟩) (x.counts.length + 1) cap7, rfl, k1, ?_, ?_, ?_⟩
  · exact k2.imp id fun h => ⟨g5, rfl, h⟩
  · exact k3.imp id fun h => ⟨g7, rfl, h⟩
  · rw [HW]
    by_cases h : rdB b = true ∧ rdB t1 = true ∧ x.blanks = 0
    · exact .inr ⟨by rw [hr, h.1, h.2.1]; simpa using h.2.2, _, by rw [if_pos h], by simp [hl1], k4⟩
    · refine .inl ⟨?_, by rw [if_neg h]⟩
      rw [hr]
      cases hb : rdB b
      · rfl
      · cases hf : rdB t1
        · rfl
        · simp only [Bool.true_and, decide_eq_false_iff_not]
          intro h2; exact h ⟨hb, hf, h2⟩
theorem splitW_data (c : UInt8) (s : ByteArray) : splitC c s.data.toList = (splitW c s).map (·.data.toList) := by
  unfold splitW; rw [List.map_map]; simp [Function.comp_def, baL_data]
theorem two_2 {s a b : ByteArray} (h : splitW 120 s = [a, b]) : twoP s.data.toList = if a.data.toList = [] then none else some (a.data.toList, b.data.toList) := by
  unfold twoP; rw [splitW_data, h]; rfl
theorem two_3 {s p a b : ByteArray} (h : splitW 120 s = [p, a, b]) : twoP s.data.toList = if p.data.toList = [] then some (120 :: a.data.toList, b.data.toList) else none := by
  unfold twoP; rw [splitW_data, h]; rfl
theorem two_no {s : ByteArray} (h2 : (splitW 120 s).length ≠ 2) (h3 : (splitW 120 s).length ≠ 3) : twoP s.data.toList = none := by
  unfold twoP
  rw [splitW_data]
  match h : splitW 120 s with
  | [] => rfl
  | [_] => rfl
  | [_, _] => rw [h] at h2; exact absurd rfl h2
  | [_, _, _] => rw [h] at h3; exact absurd rfl h3
  | _ :: _ :: _ :: _ :: _ => rfl
theorem data_nil {a : ByteArray} (h : a.size = 0) : a.data.toList = [] := by rw [← List.length_eq_zero_iff]; rw [ba_sz]; exact h
theorem data_ne {a : ByteArray} (h : a.size ≠ 0) : a.data.toList ≠ [] := by intro e; apply h; rw [← ba_sz, e]; rfl

section
attribute [local irreducible] Calls
set_option maxHeartbeats 16000000 in
set_option maxRecDepth 20000 in
theorem l02Word_any (g : Nat) (x : TileD) (v1 v2 : Value) (s : ByteArray) (w : World) (hT : OwnT w g x v1 v2) (hs : s.size ≤ 1048576) :
    Calls Tryz.prog 67 #[.pointer (some ⟨g, 0, none⟩), .string s] w (WordQ g x v1 v2 s w) := by
  have HT := Lib.hid hT
  clear hT
  go_enter Tryz.func67, Tryz.ntmps67
  go_wp2_with fail
  refine (l01Split_any s _ 120 _ rfl hs).mono ?_
  rintro e w1 ⟨u, rfl, hv1, hb1⟩
  have HB1 := Lib.hid hb1
  have HT1 := Lib.hid (HT.out.below hb1)
  have HS := Lib.hid hv1.read
  obtain ⟨pa, pc, rfl, hl, hc, -⟩ := hv1.read.shape
  unfold maxLen at hc
  obtain ⟨L, hL⟩ : ∃ L, L = splitW 120 s := ⟨_, rfl⟩
  have hsm : ∀ p ∈ splitW 120 s, p.size ≤ s.size := fun p hp => splitW_part hp
  rw [← hL] at HS hl hsm
  obtain ⟨n, hn⟩ : ∃ n, n = L.length := ⟨_, rfl⟩
  rw [← hL, ← hn]
  rw [← hn] at hl
  have HL := Lib.hid hL
  clear hv1 hb1 hL
  by_cases h2 : n = 2
  · obtain ⟨a, b, rfl⟩ : ∃ a b, L = [a, b] := by
      match L, hn.symm.trans h2 with
      | [a, b], _ => exact ⟨a, b, rfl⟩
    subst h2
    obtain ⟨a', c', e1, -, -, hcs⟩ := HS.out.shape
    injection e1 with e1 e2 e3
    subst e1
    subst e3
    obtain ⟨pb, po, rfl, hc0, -⟩ := hcs 0 (by simp)
    obtain ⟨pb', po', e1, hc1, -⟩ := hcs 1 (by simp)
    cases e1
    have hc0 : w1.cell? ⟨pb, po, none⟩ = some (.string a) := hc0
    have hc1 : w1.cell? ⟨pb, po + 1, none⟩ = some (.string b) := hc1
    have has : a.size ≤ 1048576 := Nat.le_trans (hsm a (by simp)) hs
    have hbs : b.size ≤ 1048576 := Nat.le_trans (hsm b (by simp)) hs
    have hP := two_2 HL.out.symm
    clear hcs hsm hn e2
    by_cases ha : a.size = 0
    · have ha1 : a.toList = [] := by have := isEmpty_t ha; simpa using this
      have Hno := Lib.hid (show specStep x s.data.toList = none from step_none (by rw [hP, if_pos (data_nil ha)]))
      clear hP
      go_wp2
      go_ret
      exact WordQ.no Hno.out HB1.out
    · have ha1 : a.toList ≠ [] := fun e => by have := isEmpty_f ha; rw [e] at this; cases this
      have ha2 := isEmpty_f ha
      have HP := Lib.hid (show twoP s.data.toList = some (a.data.toList, b.data.toList) by rw [hP, if_neg (data_ne ha)])
      clear hP
      go_wp2_with fail
      refine (l01Number_any b _ hbs).mono ?_
      rintro e w2 ⟨rfl, hb2⟩
      have HT2 := Lib.hid (HT1.out.below hb2)
      have HB2 := Lib.hid (HB1.out.trans (hb2.mono HB1.out.size))
      have d0 := (hb2.cell (cell_lt hc0)).trans hc0
      have d1 := (hb2.cell (cell_lt hc1)).trans hc1
      have hbox := HT2.out.box
      obtain ⟨c0, c1, c2, c3⟩ := HT2.out.cells
      have z0 := HT2.out.frozen 0
      have z3 := HT2.out.frozen 3
      clear hb2 hc0 hc1
      by_cases hq : a = ⟨#[63]⟩
      · have hq1 : a.toList = [63] := by rw [Lib.toList_data, hq]
        have HPq := Lib.hid (show twoP s.data.toList = some ([63], b.data.toList) by rw [HP.out, hq])
        cases hok : rdB b
        · have hok' := Lib.hid hok
          go_wp2
          go_ret
          exact WordQ.q HPq.out HB2.out HT2.out _ (by rw [hok'.out]; rfl)
        · have hok' := Lib.hid hok
          by_cases hpos : 0 < rdN b
          · have hpos' := Lib.hid hpos
            go_wp2
            go_ret
            exact WordQ.q HPq.out HB2.out HT2.out _ (by rw [hok'.out]; have h := hpos'.out; first | (rw [decide_eq_true h]; rfl) | (rw [decide_eq_false (Int.not_lt.2 h)]; rfl))
          · have hpos' := Lib.hid hpos
            go_wp2
            go_ret
            exact WordQ.q HPq.out HB2.out HT2.out _ (by rw [hok'.out]; have h := hpos'.out; first | (rw [decide_eq_true h]; rfl) | (rw [decide_eq_false (Int.not_lt.2 h)]; rfl))
      · have hq1 : a.toList ≠ [63] := by rw [Lib.toList_data]; intro e; apply hq; rw [← ba_of e]
        have hq2 : (a.toList == [63]) = false := by simpa using hq1
        have ha0 : 1 ≤ a.size := by omega
        obtain ⟨t1, ht1⟩ : ∃ t1 : ByteArray, a.extract 1 a.size = t1 := ⟨_, rfl⟩
        have hts : t1.size ≤ 1048576 := by rw [← ht1]; simp; omega
        obtain ⟨l1, hl1⟩ : ∃ l1 : ByteArray, a.extract 0 1 = l1 := ⟨_, rfl⟩
        have hls : l1.size = 1 := by rw [← hl1]; simp; omega
        have haI : (1 : Int) ≤ (a.size : Int) := by omega
        have hxs := HT2.out.ls
        have hsum : (9223372036854775807 < x.letters.size + 1) = False := eq_false (by omega)
        go_wp2_with fail
        refine (l01Number_any t1 _ hts).mono ?_
        rintro e w3 ⟨rfl, hb3⟩
        have HT3 := Lib.hid (HT2.out.below hb3)
        have HB3 := Lib.hid (HB2.out.trans (hb3.mono HB2.out.size))
        have d0 := (hb3.cell (cell_lt d0)).trans d0
        obtain ⟨c0, c1, c2, c3⟩ := HT3.out.cells
        have z0 := HT3.out.frozen 0
        have z1 := HT3.out.frozen 1
        have z2 := HT3.out.frozen 2
        clear hb3
        go_wp2_with fail
        go_region
        have b4 := box_set (i := 0) (u := .string (x.letters ++ l1)) HT3.out.box
        have p1 := own_set HT3.out.o1 (i := 0) (.string (x.letters ++ l1)) (Nat.lt_succ_self g)
        have p2 := own_set HT3.out.o2 (i := 0) (.string (x.letters ++ l1)) (Nat.lt_succ_self g)
        have kk4 : KeepT g v1 v2 w3 (w3.setCell ⟨g, 0, none⟩ (.string (x.letters ++ l1))).drew := KeepT.set.trans (KeepT.of_below ((Below.refl _ _).drew))
        have lt4 : g + 1 ≤ (w3.setCell ⟨g, 0, none⟩ (.string (x.letters ++ l1))).drew.heap.size := Nat.le_trans HT3.out.lt kk4.size
        have KK := Lib.hid ((KeepT.of_below HB3.out).trans kk4)
        have b4 : (w3.setCell ⟨g, 0, none⟩ (.string (x.letters ++ l1))).drew.heap[g]? = some (.cells #[.string (x.letters ++ l1), v1, v2, .int .i64 x.blanks] 26 (0, 0)) := b4
        have q1 : OwnI (w3.setCell ⟨g, 0, none⟩ (.string (x.letters ++ l1))).drew (g + 1) v1 x.values := OwnI.below (w := w3.setCell ⟨g, 0, none⟩ (.string (x.letters ++ l1))) p1 ((Below.refl _ _).drew)
        have q2 : OwnI (w3.setCell ⟨g, 0, none⟩ (.string (x.letters ++ l1))).drew (g + 1) v2 x.counts := OwnI.below (w := w3.setCell ⟨g, 0, none⟩ (.string (x.letters ++ l1))) p2 ((Below.refl _ _).drew)
        clear p1 p2 c0 c1 c2 c3 z0 z1 z2 kk4
        generalize (w3.setCell ⟨g, 0, none⟩ (.string (x.letters ++ l1))).drew = w4 at b4 KK lt4 q1 q2 ⊢
        obtain ⟨c1, z1⟩ := box_cell (i := 1) (v := v1) b4 rfl
        obtain ⟨c2, z2⟩ := box_cell (i := 2) (v := v2) b4 rfl
        obtain ⟨c3, z3⟩ := box_cell (i := 3) (v := .int .i64 x.blanks) b4 rfl
        have hvl := Lib.hid HT3.out.lv
        have hcl := Lib.hid HT3.out.lc
        have hvn : x.values.length ≤ 4398046511104 := by have := hvl.out; omega
        have hcn : x.counts.length ≤ 4398046511104 := by have := hcl.out; omega
        have Q1 := Lib.hid q1
        have Q2 := Lib.hid q2
        have B4 := Lib.hid b4
        have hv1n : v1.ownBlock ≠ some g := by intro e; have := (World.ownsRow.lt q1 g e).1; omega
        have hv2n : v2.ownBlock ≠ some g := by intro e; have := (World.ownsRow.lt q2 g e).1; omega
        have hne : v2.ownBlock = none ∨ v2.ownBlock ≠ v1.ownBlock := by
          rcases HT3.out.ne with h | h
          · by_cases h2 : v2.ownBlock = none
            · exact .inl h2
            · right; rw [h]; exact h2
          · exact .inr (Ne.symm h)
        have HNE := Lib.hid hne
        have HV1 := Lib.hid hv1n
        have HV2 := Lib.hid hv2n
        clear q1 q2 b4 hne hv1n hv2n
        have hT1d : t1.data.toList = a.data.toList.drop 1 := by rw [← ht1, ByteArray.data_extract, Array.toList_extract, List.extract_eq_take_drop, List.take_of_length_le (by rw [List.length_drop, ← size_data]; exact Nat.le_refl _)]
        have hL1d : l1.data.toList = a.data.toList.take 1 := by rw [← hl1, ByteArray.data_extract, Array.toList_extract, List.extract_eq_take_drop]; simp
        have HW := Lib.hid (step_w (x := x) (t1 := t1) (l1 := l1) HP.out (by rw [← Lib.toList_data]; exact hq1) hT1d hL1d)
        clear hT1d hL1d ht1 hl1
        cases hok : rdB b
        · have hok' := Lib.hid hok
          go_wp2_with (first
            | (at_builtin; refine app_int rfl _ _ rfl (g + 1) v1 x.values rfl Q1.out (rdN t1) _ rfl rfl hvn lt4 ?_; intro g5 cap5 w5 hown5 hg5 hloc5; have b5 := (hg5.block g lt4 (by intro e; exact HV1.out e.symm)).trans B4.out; obtain ⟨e1, y1⟩ := box_cell (i := 1) (v := v1) b5 rfl; obtain ⟨e2, y2⟩ := box_cell (i := 2) (v := v2) b5 rfl; obtain ⟨e3, y3⟩ := box_cell (i := 3) (v := .int .i64 x.blanks) b5 rfl; have B6 := Lib.hid (box_set (i := 1) (u := .slice (some ⟨g5, 0, none⟩) (x.values.length + 1) cap5) b5); have Q6 : Hid (OwnI (w5.setCell ⟨g, 1, none⟩ (.slice (some ⟨g5, 0, none⟩) (x.values.length + 1) cap5)) (g + 1) v2 x.counts) := Lib.hid (own_set (World.ownsRow.kept Q2.out hg5 HNE.out) (i := 1) (.slice (some ⟨g5, 0, none⟩) (x.values.length + 1) cap5) (Nat.lt_succ_self g)); have lt6 : g + 1 ≤ (w5.setCell ⟨g, 1, none⟩ (.slice (some ⟨g5, 0, none⟩) (x.values.length + 1) cap5)).heap.size := (Nat.le_trans lt4 (Nat.le_trans hg5.size (by simp [World.setCell]))))
            | (at_builtin; go_loud (refine app_int rfl _ _ rfl (g + 1) v2 x.counts rfl Q6.out (rdN b) w5.heap.size (by simp [World.setCell]) rfl hcn lt6 ?_; intro g7 cap7 w7 hown7 hg7 hloc7; have b7 := (hg7.block g lt6 (by intro e; exact HV2.out e.symm)).trans B6.out; obtain ⟨f2, x2⟩ := box_cell (i := 2) (v := v2) b7 rfl; obtain ⟨f3, x3⟩ := box_cell (i := 3) (v := .int .i64 x.blanks) b7 rfl; have B7 := Lib.hid b7; have G7 := Lib.hid hg7; have L7 := Lib.hid hloc7; have O7 := Lib.hid hown7; clear b7 hg7 hloc7 hown7))
            | fail)
          go_ret
          exact WordQ.w HW.out hls _ (by rw [hok'.out]; rfl) KK.out Q1.out Q2.out HT3.out.ne hown5 hg5 hloc5 O7.out G7.out L7.out B7.out HT3.out.kb HT3.out.kv HT3.out.kc hvl.out hcl.out
        · have hok' := Lib.hid hok
          cases hfi : rdB t1
          · have hfi' := Lib.hid hfi
            go_wp2_with (first
              | (at_builtin; refine app_int rfl _ _ rfl (g + 1) v1 x.values rfl Q1.out (rdN t1) _ rfl rfl hvn lt4 ?_; intro g5 cap5 w5 hown5 hg5 hloc5; have b5 := (hg5.block g lt4 (by intro e; exact HV1.out e.symm)).trans B4.out; obtain ⟨e1, y1⟩ := box_cell (i := 1) (v := v1) b5 rfl; obtain ⟨e2, y2⟩ := box_cell (i := 2) (v := v2) b5 rfl; obtain ⟨e3, y3⟩ := box_cell (i := 3) (v := .int .i64 x.blanks) b5 rfl; have B6 := Lib.hid (box_set (i := 1) (u := .slice (some ⟨g5, 0, none⟩) (x.values.length + 1) cap5) b5); have Q6 : Hid (OwnI (w5.setCell ⟨g, 1, none⟩ (.slice (some ⟨g5, 0, none⟩) (x.values.length + 1) cap5)) (g + 1) v2 x.counts) := Lib.hid (own_set (World.ownsRow.kept Q2.out hg5 HNE.out) (i := 1) (.slice (some ⟨g5, 0, none⟩) (x.values.length + 1) cap5) (Nat.lt_succ_self g)); have lt6 : g + 1 ≤ (w5.setCell ⟨g, 1, none⟩ (.slice (some ⟨g5, 0, none⟩) (x.values.length + 1) cap5)).heap.size := (Nat.le_trans lt4 (Nat.le_trans hg5.size (by simp [World.setCell]))))
              | (at_builtin; go_loud (refine app_int rfl _ _ rfl (g + 1) v2 x.counts rfl Q6.out (rdN b) w5.heap.size (by simp [World.setCell]) rfl hcn lt6 ?_; intro g7 cap7 w7 hown7 hg7 hloc7; have b7 := (hg7.block g lt6 (by intro e; exact HV2.out e.symm)).trans B6.out; obtain ⟨f2, x2⟩ := box_cell (i := 2) (v := v2) b7 rfl; obtain ⟨f3, x3⟩ := box_cell (i := 3) (v := .int .i64 x.blanks) b7 rfl; have B7 := Lib.hid b7; have G7 := Lib.hid hg7; have L7 := Lib.hid hloc7; have O7 := Lib.hid hown7; clear b7 hg7 hloc7 hown7))
              | fail)
            go_ret
            exact WordQ.w HW.out hls _ (by rw [hok'.out, hfi'.out]; rfl) KK.out Q1.out Q2.out HT3.out.ne hown5 hg5 hloc5 O7.out G7.out L7.out B7.out HT3.out.kb HT3.out.kv HT3.out.kc hvl.out hcl.out
          · have hfi' := Lib.hid hfi
            by_cases hbl : x.blanks = 0
            · have hbl' := Lib.hid hbl
              go_wp2_with (first
                | (at_builtin; refine app_int rfl _ _ rfl (g + 1) v1 x.values rfl Q1.out (rdN t1) _ rfl rfl hvn lt4 ?_; intro g5 cap5 w5 hown5 hg5 hloc5; have b5 := (hg5.block g lt4 (by intro e; exact HV1.out e.symm)).trans B4.out; obtain ⟨e1, y1⟩ := box_cell (i := 1) (v := v1) b5 rfl; obtain ⟨e2, y2⟩ := box_cell (i := 2) (v := v2) b5 rfl; obtain ⟨e3, y3⟩ := box_cell (i := 3) (v := .int .i64 x.blanks) b5 rfl; have B6 := Lib.hid (box_set (i := 1) (u := .slice (some ⟨g5, 0, none⟩) (x.values.length + 1) cap5) b5); have Q6 : Hid (OwnI (w5.setCell ⟨g, 1, none⟩ (.slice (some ⟨g5, 0, none⟩) (x.values.length + 1) cap5)) (g + 1) v2 x.counts) := Lib.hid (own_set (World.ownsRow.kept Q2.out hg5 HNE.out) (i := 1) (.slice (some ⟨g5, 0, none⟩) (x.values.length + 1) cap5) (Nat.lt_succ_self g)); have lt6 : g + 1 ≤ (w5.setCell ⟨g, 1, none⟩ (.slice (some ⟨g5, 0, none⟩) (x.values.length + 1) cap5)).heap.size := (Nat.le_trans lt4 (Nat.le_trans hg5.size (by simp [World.setCell]))))
                | (at_builtin; go_loud (refine app_int rfl _ _ rfl (g + 1) v2 x.counts rfl Q6.out (rdN b) w5.heap.size (by simp [World.setCell]) rfl hcn lt6 ?_; intro g7 cap7 w7 hown7 hg7 hloc7; have b7 := (hg7.block g lt6 (by intro e; exact HV2.out e.symm)).trans B6.out; obtain ⟨f2, x2⟩ := box_cell (i := 2) (v := v2) b7 rfl; obtain ⟨f3, x3⟩ := box_cell (i := 3) (v := .int .i64 x.blanks) b7 rfl; have B7 := Lib.hid b7; have G7 := Lib.hid hg7; have L7 := Lib.hid hloc7; have O7 := Lib.hid hown7; clear b7 hg7 hloc7 hown7))
                | fail)
              go_ret
              exact WordQ.w HW.out hls _ (by rw [hok'.out, hfi'.out]; simp [hbl'.out]) KK.out Q1.out Q2.out HT3.out.ne hown5 hg5 hloc5 O7.out G7.out L7.out B7.out HT3.out.kb HT3.out.kv HT3.out.kc hvl.out hcl.out
            · have hbl' := Lib.hid hbl
              go_wp2_with (first
                | (at_builtin; refine app_int rfl _ _ rfl (g + 1) v1 x.values rfl Q1.out (rdN t1) _ rfl rfl hvn lt4 ?_; intro g5 cap5 w5 hown5 hg5 hloc5; have b5 := (hg5.block g lt4 (by intro e; exact HV1.out e.symm)).trans B4.out; obtain ⟨e1, y1⟩ := box_cell (i := 1) (v := v1) b5 rfl; obtain ⟨e2, y2⟩ := box_cell (i := 2) (v := v2) b5 rfl; obtain ⟨e3, y3⟩ := box_cell (i := 3) (v := .int .i64 x.blanks) b5 rfl; have B6 := Lib.hid (box_set (i := 1) (u := .slice (some ⟨g5, 0, none⟩) (x.values.length + 1) cap5) b5); have Q6 : Hid (OwnI (w5.setCell ⟨g, 1, none⟩ (.slice (some ⟨g5, 0, none⟩) (x.values.length + 1) cap5)) (g + 1) v2 x.counts) := Lib.hid (own_set (World.ownsRow.kept Q2.out hg5 HNE.out) (i := 1) (.slice (some ⟨g5, 0, none⟩) (x.values.length + 1) cap5) (Nat.lt_succ_self g)); have lt6 : g + 1 ≤ (w5.setCell ⟨g, 1, none⟩ (.slice (some ⟨g5, 0, none⟩) (x.values.length + 1) cap5)).heap.size := (Nat.le_trans lt4 (Nat.le_trans hg5.size (by simp [World.setCell]))))
                | (at_builtin; go_loud (refine app_int rfl _ _ rfl (g + 1) v2 x.counts rfl Q6.out (rdN b) w5.heap.size (by simp [World.setCell]) rfl hcn lt6 ?_; intro g7 cap7 w7 hown7 hg7 hloc7; have b7 := (hg7.block g lt6 (by intro e; exact HV2.out e.symm)).trans B6.out; obtain ⟨f2, x2⟩ := box_cell (i := 2) (v := v2) b7 rfl; obtain ⟨f3, x3⟩ := box_cell (i := 3) (v := .int .i64 x.blanks) b7 rfl; have B7 := Lib.hid b7; have G7 := Lib.hid hg7; have L7 := Lib.hid hloc7; have O7 := Lib.hid hown7; clear b7 hg7 hloc7 hown7))
                | fail)
              go_ret
              exact WordQ.w HW.out hls _ (by rw [hok'.out, hfi'.out]; simp [hbl'.out]) KK.out Q1.out Q2.out HT3.out.ne hown5 hg5 hloc5 O7.out G7.out L7.out B7.out HT3.out.kb HT3.out.kv HT3.out.kc hvl.out hcl.out
  · by_cases h3 : n = 3
    · obtain ⟨p, q, b, rfl⟩ : ∃ p q b, L = [p, q, b] := by
        match L, hn.symm.trans h3 with
        | [p, q, b], _ => exact ⟨p, q, b, rfl⟩
      subst h3
      obtain ⟨a', c', e1, -, -, hcs⟩ := HS.out.shape
      injection e1 with e1 e2 e3
      subst e1
      subst e3
      obtain ⟨pb, po, rfl, k0, -⟩ := hcs 0 (by simp)
      obtain ⟨pb', po', e1, k1, -⟩ := hcs 1 (by simp)
      cases e1
      obtain ⟨pb', po', e1, k2, -⟩ := hcs 2 (by simp)
      cases e1
      have k0 : w1.cell? ⟨pb, po, none⟩ = some (.string p) := k0
      have k1 : w1.cell? ⟨pb, po + 1, none⟩ = some (.string q) := k1
      have k2 : w1.cell? ⟨pb, po + 2, none⟩ = some (.string b) := k2
      have hps : q.size ≤ 1048576 := Nat.le_trans (hsm q (by simp)) hs
      have hbs : b.size ≤ 1048576 := Nat.le_trans (hsm b (by simp)) hs
      have hP := two_3 HL.out.symm
      clear hcs hsm hn e2
      by_cases hp0 : p.size = 0
      · have hp1 : p.toList = [] := by have := isEmpty_t hp0; simpa using this
        have hsum : (9223372036854775807 < 1 + q.size) = False := eq_false (by omega)
        have hP' := hP.trans (if_pos (data_nil hp0))
        clear hP
        have HP0 := Lib.hid hP'
        clear hP'
        go_wp2_with fail
        go_region
        obtain ⟨a, haE⟩ : ∃ a, (⟨#[120]⟩ : ByteArray) ++ q = a := ⟨_, rfl⟩
        rw [haE]
        have haS : a.size = 1 + q.size := by rw [← haE, ByteArray.size_append]; rfl
        have haD : a.data.toList = 120 :: q.data.toList := by rw [← haE, ba_data_app]; rfl
        have ha : ¬ a.size = 0 := by omega
        have has : a.size ≤ 1048577 := by omega
        have ha1 : a.toList ≠ [] := fun e => by have := isEmpty_f ha; rw [e] at this; cases this
        have ha2 := isEmpty_f ha
        have HP := Lib.hid (show twoP s.data.toList = some (a.data.toList, b.data.toList) by rw [HP0.out, haD])
        have hbx : Below w1.heap.size w1 (w1.alloc (.cells #[.string a, .string b] 9)).drew := ((Below.refl _ _).alloc (Nat.le_refl _) _).drew
        have hc0 : (w1.alloc (.cells #[.string a, .string b] 9)).drew.cell? ⟨w1.heap.size, 0, none⟩ = some (.string a) := cell_newi w1 #[.string a, .string b] 9 0 _ rfl
        have hc1 : (w1.alloc (.cells #[.string a, .string b] 9)).drew.cell? ⟨w1.heap.size, 1, none⟩ = some (.string b) := cell_newi w1 #[.string a, .string b] 9 1 _ rfl
        clear k0 k1 k2 HP0 haD haE HS haS hps
        clear k0 k1 k2 hsum
        generalize (w1.alloc (.cells #[.string a, .string b] 9)).drew = wB at hbx hc0 hc1 ⊢
        have HBB := Lib.hid (HB1.out.trans (hbx.mono HB1.out.size))
        have HTB := Lib.hid (HT1.out.below hbx)
        clear hbx
        generalize w1.heap.size = pn at hc0 hc1 ⊢
        go_wp2_with fail
        refine (l01Number_any b _ hbs).mono ?_
        rintro e w2 ⟨rfl, hb2⟩
        have HT2 := Lib.hid (HTB.out.below hb2)
        have HB2 := Lib.hid (HBB.out.trans (hb2.mono HBB.out.size))
        have d0 := (hb2.cell (cell_lt hc0)).trans hc0
        have d1 := (hb2.cell (cell_lt hc1)).trans hc1
        have hbox := HT2.out.box
        obtain ⟨c0, c1, c2, c3⟩ := HT2.out.cells
        have z0 := HT2.out.frozen 0
        have z3 := HT2.out.frozen 3
        clear hb2 hc0 hc1
        by_cases hq : a = ⟨#[63]⟩
        · have hq1 : a.toList = [63] := by rw [Lib.toList_data, hq]
          have HPq := Lib.hid (show twoP s.data.toList = some ([63], b.data.toList) by rw [HP.out, hq])
          cases hok : rdB b
          · have hok' := Lib.hid hok
            go_wp2
            go_ret
            exact WordQ.q HPq.out HB2.out HT2.out _ (by rw [hok'.out]; rfl)
          · have hok' := Lib.hid hok
            by_cases hpos : 0 < rdN b
            · have hpos' := Lib.hid hpos
              go_wp2
              go_ret
              exact WordQ.q HPq.out HB2.out HT2.out _ (by rw [hok'.out]; have h := hpos'.out; first | (rw [decide_eq_true h]; rfl) | (rw [decide_eq_false (Int.not_lt.2 h)]; rfl))
            · have hpos' := Lib.hid hpos
              go_wp2
              go_ret
              exact WordQ.q HPq.out HB2.out HT2.out _ (by rw [hok'.out]; have h := hpos'.out; first | (rw [decide_eq_true h]; rfl) | (rw [decide_eq_false (Int.not_lt.2 h)]; rfl))
        · have hq1 : a.toList ≠ [63] := by rw [Lib.toList_data]; intro e; apply hq; rw [← ba_of e]
          have hq2 : (a.toList == [63]) = false := by simpa using hq1
          have ha0 : 1 ≤ a.size := by omega
          obtain ⟨t1, ht1⟩ : ∃ t1 : ByteArray, a.extract 1 a.size = t1 := ⟨_, rfl⟩
          have hts : t1.size ≤ 1048576 := by rw [← ht1]; simp; omega
          obtain ⟨l1, hl1⟩ : ∃ l1 : ByteArray, a.extract 0 1 = l1 := ⟨_, rfl⟩
          have hls : l1.size = 1 := by rw [← hl1]; simp; omega
          have haI : (1 : Int) ≤ (a.size : Int) := by omega
          have hxs := HT2.out.ls
          have hsum : (9223372036854775807 < x.letters.size + 1) = False := eq_false (by omega)
          go_wp2_with fail
          refine (l01Number_any t1 _ hts).mono ?_
          rintro e w3 ⟨rfl, hb3⟩
          have HT3 := Lib.hid (HT2.out.below hb3)
          have HB3 := Lib.hid (HB2.out.trans (hb3.mono HB2.out.size))
          have d0 := (hb3.cell (cell_lt d0)).trans d0
          obtain ⟨c0, c1, c2, c3⟩ := HT3.out.cells
          have z0 := HT3.out.frozen 0
          have z1 := HT3.out.frozen 1
          have z2 := HT3.out.frozen 2
          clear hb3
          go_wp2_with fail
          go_region
          have b4 := box_set (i := 0) (u := .string (x.letters ++ l1)) HT3.out.box
          have p1 := own_set HT3.out.o1 (i := 0) (.string (x.letters ++ l1)) (Nat.lt_succ_self g)
          have p2 := own_set HT3.out.o2 (i := 0) (.string (x.letters ++ l1)) (Nat.lt_succ_self g)
          have kk4 : KeepT g v1 v2 w3 (w3.setCell ⟨g, 0, none⟩ (.string (x.letters ++ l1))).drew := KeepT.set.trans (KeepT.of_below ((Below.refl _ _).drew))
          have lt4 : g + 1 ≤ (w3.setCell ⟨g, 0, none⟩ (.string (x.letters ++ l1))).drew.heap.size := Nat.le_trans HT3.out.lt kk4.size
          have KK := Lib.hid ((KeepT.of_below HB3.out).trans kk4)
          have b4 : (w3.setCell ⟨g, 0, none⟩ (.string (x.letters ++ l1))).drew.heap[g]? = some (.cells #[.string (x.letters ++ l1), v1, v2, .int .i64 x.blanks] 26 (0, 0)) := b4
          have q1 : OwnI (w3.setCell ⟨g, 0, none⟩ (.string (x.letters ++ l1))).drew (g + 1) v1 x.values := OwnI.below (w := w3.setCell ⟨g, 0, none⟩ (.string (x.letters ++ l1))) p1 ((Below.refl _ _).drew)
          have q2 : OwnI (w3.setCell ⟨g, 0, none⟩ (.string (x.letters ++ l1))).drew (g + 1) v2 x.counts := OwnI.below (w := w3.setCell ⟨g, 0, none⟩ (.string (x.letters ++ l1))) p2 ((Below.refl _ _).drew)
          clear p1 p2 c0 c1 c2 c3 z0 z1 z2 kk4
          generalize (w3.setCell ⟨g, 0, none⟩ (.string (x.letters ++ l1))).drew = w4 at b4 KK lt4 q1 q2 ⊢
          obtain ⟨c1, z1⟩ := box_cell (i := 1) (v := v1) b4 rfl
          obtain ⟨c2, z2⟩ := box_cell (i := 2) (v := v2) b4 rfl
          obtain ⟨c3, z3⟩ := box_cell (i := 3) (v := .int .i64 x.blanks) b4 rfl
          have hvl := Lib.hid HT3.out.lv
          have hcl := Lib.hid HT3.out.lc
          have hvn : x.values.length ≤ 4398046511104 := by have := hvl.out; omega
          have hcn : x.counts.length ≤ 4398046511104 := by have := hcl.out; omega
          have Q1 := Lib.hid q1
          have Q2 := Lib.hid q2
          have B4 := Lib.hid b4
          have hv1n : v1.ownBlock ≠ some g := by intro e; have := (World.ownsRow.lt q1 g e).1; omega
          have hv2n : v2.ownBlock ≠ some g := by intro e; have := (World.ownsRow.lt q2 g e).1; omega
          have hne : v2.ownBlock = none ∨ v2.ownBlock ≠ v1.ownBlock := by
            rcases HT3.out.ne with h | h
            · by_cases h2 : v2.ownBlock = none
              · exact .inl h2
              · right; rw [h]; exact h2
            · exact .inr (Ne.symm h)
          have HNE := Lib.hid hne
          have HV1 := Lib.hid hv1n
          have HV2 := Lib.hid hv2n
          clear q1 q2 b4 hne hv1n hv2n
          have hT1d : t1.data.toList = a.data.toList.drop 1 := by rw [← ht1, ByteArray.data_extract, Array.toList_extract, List.extract_eq_take_drop, List.take_of_length_le (by rw [List.length_drop, ← size_data]; exact Nat.le_refl _)]
          have hL1d : l1.data.toList = a.data.toList.take 1 := by rw [← hl1, ByteArray.data_extract, Array.toList_extract, List.extract_eq_take_drop]; simp
          have HW := Lib.hid (step_w (x := x) (t1 := t1) (l1 := l1) HP.out (by rw [← Lib.toList_data]; exact hq1) hT1d hL1d)
          clear hT1d hL1d ht1 hl1
          cases hok : rdB b
          · have hok' := Lib.hid hok
            go_wp2_with (first
              | (at_builtin; refine app_int rfl _ _ rfl (g + 1) v1 x.values rfl Q1.out (rdN t1) _ rfl rfl hvn lt4 ?_; intro g5 cap5 w5 hown5 hg5 hloc5; have b5 := (hg5.block g lt4 (by intro e; exact HV1.out e.symm)).trans B4.out; obtain ⟨e1, y1⟩ := box_cell (i := 1) (v := v1) b5 rfl; obtain ⟨e2, y2⟩ := box_cell (i := 2) (v := v2) b5 rfl; obtain ⟨e3, y3⟩ := box_cell (i := 3) (v := .int .i64 x.blanks) b5 rfl; have B6 := Lib.hid (box_set (i := 1) (u := .slice (some ⟨g5, 0, none⟩) (x.values.length + 1) cap5) b5); have Q6 : Hid (OwnI (w5.setCell ⟨g, 1, none⟩ (.slice (some ⟨g5, 0, none⟩) (x.values.length + 1) cap5)) (g + 1) v2 x.counts) := Lib.hid (own_set (World.ownsRow.kept Q2.out hg5 HNE.out) (i := 1) (.slice (some ⟨g5, 0, none⟩) (x.values.length + 1) cap5) (Nat.lt_succ_self g)); have lt6 : g + 1 ≤ (w5.setCell ⟨g, 1, none⟩ (.slice (some ⟨g5, 0, none⟩) (x.values.length + 1) cap5)).heap.size := (Nat.le_trans lt4 (Nat.le_trans hg5.size (by simp [World.setCell]))))
              | (at_builtin; go_loud (refine app_int rfl _ _ rfl (g + 1) v2 x.counts rfl Q6.out (rdN b) w5.heap.size (by simp [World.setCell]) rfl hcn lt6 ?_; intro g7 cap7 w7 hown7 hg7 hloc7; have b7 := (hg7.block g lt6 (by intro e; exact HV2.out e.symm)).trans B6.out; obtain ⟨f2, x2⟩ := box_cell (i := 2) (v := v2) b7 rfl; obtain ⟨f3, x3⟩ := box_cell (i := 3) (v := .int .i64 x.blanks) b7 rfl; have B7 := Lib.hid b7; have G7 := Lib.hid hg7; have L7 := Lib.hid hloc7; have O7 := Lib.hid hown7; clear b7 hg7 hloc7 hown7))
              | fail)
            go_ret
            exact WordQ.w HW.out hls _ (by rw [hok'.out]; rfl) KK.out Q1.out Q2.out HT3.out.ne hown5 hg5 hloc5 O7.out G7.out L7.out B7.out HT3.out.kb HT3.out.kv HT3.out.kc hvl.out hcl.out
          · have hok' := Lib.hid hok
            cases hfi : rdB t1
            · have hfi' := Lib.hid hfi
              go_wp2_with (first
                | (at_builtin; refine app_int rfl _ _ rfl (g + 1) v1 x.values rfl Q1.out (rdN t1) _ rfl rfl hvn lt4 ?_; intro g5 cap5 w5 hown5 hg5 hloc5; have b5 := (hg5.block g lt4 (by intro e; exact HV1.out e.symm)).trans B4.out; obtain ⟨e1, y1⟩ := box_cell (i := 1) (v := v1) b5 rfl; obtain ⟨e2, y2⟩ := box_cell (i := 2) (v := v2) b5 rfl; obtain ⟨e3, y3⟩ := box_cell (i := 3) (v := .int .i64 x.blanks) b5 rfl; have B6 := Lib.hid (box_set (i := 1) (u := .slice (some ⟨g5, 0, none⟩) (x.values.length + 1) cap5) b5); have Q6 : Hid (OwnI (w5.setCell ⟨g, 1, none⟩ (.slice (some ⟨g5, 0, none⟩) (x.values.length + 1) cap5)) (g + 1) v2 x.counts) := Lib.hid (own_set (World.ownsRow.kept Q2.out hg5 HNE.out) (i := 1) (.slice (some ⟨g5, 0, none⟩) (x.values.length + 1) cap5) (Nat.lt_succ_self g)); have lt6 : g + 1 ≤ (w5.setCell ⟨g, 1, none⟩ (.slice (some ⟨g5, 0, none⟩) (x.values.length + 1) cap5)).heap.size := (Nat.le_trans lt4 (Nat.le_trans hg5.size (by simp [World.setCell]))))
                | (at_builtin; go_loud (refine app_int rfl _ _ rfl (g + 1) v2 x.counts rfl Q6.out (rdN b) w5.heap.size (by simp [World.setCell]) rfl hcn lt6 ?_; intro g7 cap7 w7 hown7 hg7 hloc7; have b7 := (hg7.block g lt6 (by intro e; exact HV2.out e.symm)).trans B6.out; obtain ⟨f2, x2⟩ := box_cell (i := 2) (v := v2) b7 rfl; obtain ⟨f3, x3⟩ := box_cell (i := 3) (v := .int .i64 x.blanks) b7 rfl; have B7 := Lib.hid b7; have G7 := Lib.hid hg7; have L7 := Lib.hid hloc7; have O7 := Lib.hid hown7; clear b7 hg7 hloc7 hown7))
                | fail)
              go_ret
              exact WordQ.w HW.out hls _ (by rw [hok'.out, hfi'.out]; rfl) KK.out Q1.out Q2.out HT3.out.ne hown5 hg5 hloc5 O7.out G7.out L7.out B7.out HT3.out.kb HT3.out.kv HT3.out.kc hvl.out hcl.out
            · have hfi' := Lib.hid hfi
              by_cases hbl : x.blanks = 0
              · have hbl' := Lib.hid hbl
                go_wp2_with (first
                  | (at_builtin; refine app_int rfl _ _ rfl (g + 1) v1 x.values rfl Q1.out (rdN t1) _ rfl rfl hvn lt4 ?_; intro g5 cap5 w5 hown5 hg5 hloc5; have b5 := (hg5.block g lt4 (by intro e; exact HV1.out e.symm)).trans B4.out; obtain ⟨e1, y1⟩ := box_cell (i := 1) (v := v1) b5 rfl; obtain ⟨e2, y2⟩ := box_cell (i := 2) (v := v2) b5 rfl; obtain ⟨e3, y3⟩ := box_cell (i := 3) (v := .int .i64 x.blanks) b5 rfl; have B6 := Lib.hid (box_set (i := 1) (u := .slice (some ⟨g5, 0, none⟩) (x.values.length + 1) cap5) b5); have Q6 : Hid (OwnI (w5.setCell ⟨g, 1, none⟩ (.slice (some ⟨g5, 0, none⟩) (x.values.length + 1) cap5)) (g + 1) v2 x.counts) := Lib.hid (own_set (World.ownsRow.kept Q2.out hg5 HNE.out) (i := 1) (.slice (some ⟨g5, 0, none⟩) (x.values.length + 1) cap5) (Nat.lt_succ_self g)); have lt6 : g + 1 ≤ (w5.setCell ⟨g, 1, none⟩ (.slice (some ⟨g5, 0, none⟩) (x.values.length + 1) cap5)).heap.size := (Nat.le_trans lt4 (Nat.le_trans hg5.size (by simp [World.setCell]))))
                  | (at_builtin; go_loud (refine app_int rfl _ _ rfl (g + 1) v2 x.counts rfl Q6.out (rdN b) w5.heap.size (by simp [World.setCell]) rfl hcn lt6 ?_; intro g7 cap7 w7 hown7 hg7 hloc7; have b7 := (hg7.block g lt6 (by intro e; exact HV2.out e.symm)).trans B6.out; obtain ⟨f2, x2⟩ := box_cell (i := 2) (v := v2) b7 rfl; obtain ⟨f3, x3⟩ := box_cell (i := 3) (v := .int .i64 x.blanks) b7 rfl; have B7 := Lib.hid b7; have G7 := Lib.hid hg7; have L7 := Lib.hid hloc7; have O7 := Lib.hid hown7; clear b7 hg7 hloc7 hown7))
                  | fail)
                go_ret
                exact WordQ.w HW.out hls _ (by rw [hok'.out, hfi'.out]; simp [hbl'.out]) KK.out Q1.out Q2.out HT3.out.ne hown5 hg5 hloc5 O7.out G7.out L7.out B7.out HT3.out.kb HT3.out.kv HT3.out.kc hvl.out hcl.out
              · have hbl' := Lib.hid hbl
                go_wp2_with (first
                  | (at_builtin; refine app_int rfl _ _ rfl (g + 1) v1 x.values rfl Q1.out (rdN t1) _ rfl rfl hvn lt4 ?_; intro g5 cap5 w5 hown5 hg5 hloc5; have b5 := (hg5.block g lt4 (by intro e; exact HV1.out e.symm)).trans B4.out; obtain ⟨e1, y1⟩ := box_cell (i := 1) (v := v1) b5 rfl; obtain ⟨e2, y2⟩ := box_cell (i := 2) (v := v2) b5 rfl; obtain ⟨e3, y3⟩ := box_cell (i := 3) (v := .int .i64 x.blanks) b5 rfl; have B6 := Lib.hid (box_set (i := 1) (u := .slice (some ⟨g5, 0, none⟩) (x.values.length + 1) cap5) b5); have Q6 : Hid (OwnI (w5.setCell ⟨g, 1, none⟩ (.slice (some ⟨g5, 0, none⟩) (x.values.length + 1) cap5)) (g + 1) v2 x.counts) := Lib.hid (own_set (World.ownsRow.kept Q2.out hg5 HNE.out) (i := 1) (.slice (some ⟨g5, 0, none⟩) (x.values.length + 1) cap5) (Nat.lt_succ_self g)); have lt6 : g + 1 ≤ (w5.setCell ⟨g, 1, none⟩ (.slice (some ⟨g5, 0, none⟩) (x.values.length + 1) cap5)).heap.size := (Nat.le_trans lt4 (Nat.le_trans hg5.size (by simp [World.setCell]))))
                  | (at_builtin; go_loud (refine app_int rfl _ _ rfl (g + 1) v2 x.counts rfl Q6.out (rdN b) w5.heap.size (by simp [World.setCell]) rfl hcn lt6 ?_; intro g7 cap7 w7 hown7 hg7 hloc7; have b7 := (hg7.block g lt6 (by intro e; exact HV2.out e.symm)).trans B6.out; obtain ⟨f2, x2⟩ := box_cell (i := 2) (v := v2) b7 rfl; obtain ⟨f3, x3⟩ := box_cell (i := 3) (v := .int .i64 x.blanks) b7 rfl; have B7 := Lib.hid b7; have G7 := Lib.hid hg7; have L7 := Lib.hid hloc7; have O7 := Lib.hid hown7; clear b7 hg7 hloc7 hown7))
                  | fail)
                go_ret
                exact WordQ.w HW.out hls _ (by rw [hok'.out, hfi'.out]; simp [hbl'.out]) KK.out Q1.out Q2.out HT3.out.ne hown5 hg5 hloc5 O7.out G7.out L7.out B7.out HT3.out.kb HT3.out.kv HT3.out.kc hvl.out hcl.out
      · have hp1 : p.toList ≠ [] := by have := isEmpty_f hp0; simpa using this
        have hp2 := isEmpty_f hp0
        have Hno := Lib.hid (show specStep x s.data.toList = none from step_none (by rw [hP, if_neg (data_ne hp0)]))
        clear hP
        go_wp2
        go_ret
        exact WordQ.no Hno.out HB1.out
    · have Hno := Lib.hid (show specStep x s.data.toList = none from step_none (two_no (by rw [← HL.out, ← hn]; exact h2) (by rw [← HL.out, ← hn]; exact h3)))
      have h2I : ((n : Int) != 2) = true := by simp; omega
      have h3I : ((n : Int) != 3) = true := by simp; omega
      clear hn
      go_wp2
      go_ret
      exact WordQ.no Hno.out HB1.out
end
end Go.Proofs.YtinmmbnlflmobaaGreatDoor
