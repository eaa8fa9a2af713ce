/- ReadTiles of the reference. Condition: a text of at most 2^20 bytes. -/
import Derived.Test.YtinmmbnlflmobaaGreatDoorTw
import Derived.Test.YtinmmbnlflmobaaGreatDoorIm
import Derived.Laws.ResultCell
import Derived.Laws.Rows
namespace Go.Proofs.YtinmmbnlflmobaaGreatDoor
open Go.RowKit
/-- A result in a cell and one in a slot. -/
theorem results_cell_rowT {P : Program} {fn : Func} {p u : Tmp} {ty : TypeId} (h : fn.results = #[.cell p ty, .tmp u]) (tmps : Array Value) (w : World) (g : Nat) (t : TypeId) (cs : Array Value) (fr : Nat × Nat) (d : TypeDesc)
    (hp : tmps.getD p undef = .pointer (some ⟨g, 0, none⟩)) (hg : w.heap[g]? = some (.cells cs t fr))
    (hu : P.underlying ty = some d) (hd : (match d with | .struct _ | .array _ _ => true | _ => false) = true) (hi : (P.info? ty).map (·.size) = some cs.size) :
    (results fn tmps).run P w = .ok (.tuple #[.agg cs, tmps.getD u undef]) w := by
  rw [results_cell_tmp h, hp]
  have hl := run_loadVar_row w g t ty cs fr d hg hu hd hi
  simp [asAddr, hl, Result.andThen]
/-- What ReadTiles gives. -/
noncomputable def rtV (s : ByteArray) : TileD := (readT s.data.toList).getD emptyT
noncomputable def rtB (s : ByteArray) : Bool := (readT s.data.toList).isSome
theorem rt_none {s : ByteArray} (h : readT s.data.toList = none) : rtV s = emptyT ∧ rtB s = false := by unfold rtV rtB; rw [h]; exact ⟨rfl, rfl⟩
theorem rt_some {s : ByteArray} {x : TileD} (h : readT s.data.toList = some x) : rtV s = x ∧ rtB s = true := by unfold rtV rtB; rw [h]; exact ⟨rfl, rfl⟩
/-- More than 27 words. -/
theorem readT_long {l : List UInt8} (h : 27 < (splitC 32 l).length) : readT l = none := by
  refine readT_none fun x H e => ?_
  rw [← e, textL_split H] at h
  have := H.n2
  unfold wordsL at h
  rw [List.length_append, List.length_map, List.length_range] at h
  split at h <;> simp at h <;> omega
theorem fold_stop {f : TileD → List UInt8 → Option TileD} {l : List (List UInt8)} {j : Nat} {t x : TileD} (hj : j < l.length) (h : foldO f t (l.take j) = some x) (h2 : f x l[j] = none) : foldO f t l = none := by
  have e : l = l.take j ++ l[j] :: l.drop (j + 1) := by rw [← List.drop_eq_getElem_cons hj, List.take_append_drop]
  rw [e, foldO_append f _ _ _ _ h]
  simp only [foldO, h2]
theorem fold_step {f : TileD → List UInt8 → Option TileD} {l : List (List UInt8)} {j : Nat} {t x x' : TileD} (hj : j < l.length) (h : foldO f t (l.take j) = some x) (h2 : f x l[j] = some x') : foldO f t (l.take (j + 1)) = some x' := by
  rw [List.take_succ_eq_append_getElem hj, foldO_append f _ _ _ _ h]
  simp only [foldO, h2]
theorem readT_stop {f : TileD → List UInt8 → Option TileD} (hf : ∀ x, TilP x → foldO f emptyT (splitC 32 (textL x)) = some x) {l : List UInt8} (h : foldO f emptyT (splitC 32 l) = none) : readT l = none := by
  rw [readT_fold hf, h]
theorem readT_end {f : TileD → List UInt8 → Option TileD} (hf : ∀ x, TilP x → foldO f emptyT (splitC 32 (textL x)) = some x) {l : List UInt8} {x : TileD} (h : foldO f emptyT (splitC 32 l) = some x) : readT l = if tilB x = true ∧ textL x = l then some x else none := by
  rw [readT_fold hf, h]
theorem emptyT_X (w : World) (lo : Nat) {hi : Nat} (h : lo + 2 ≤ hi) : TilX w lo hi (.agg #[.string ⟨#[]⟩, .slice none 0 0, .slice none 0 0, .int .i64 0]) emptyT :=
  ⟨_, _, lo, lo + 1, rfl, by simp [emptyT, maxLen, ByteArray.size], ⟨⟨rfl, none, 0, rfl, Nat.le_refl _, by unfold maxLen; omega, .inl rfl⟩, by simp [emptyT]⟩, ⟨⟨rfl, none, 0, rfl, Nat.le_refl _, by unfold maxLen; omega, .inl rfl⟩, by simp [emptyT]⟩, I64.zero, by omega, by omega, by omega, by omega, by omega⟩
theorem heap2_1 (w : World) (A B : Obj) : ((w.alloc A).alloc B).heap[w.heap.size + 1]? = some B := heap_alloc2_new w A B
theorem heap2_0 (w : World) (A B : Obj) : ((w.alloc A).alloc B).heap[w.heap.size]? = some A := heap_alloc2_old w A B
/-- A struct of four cells, stored. -/
theorem store4 {w : World} {g : Nat} {x0 x1 x2 x3 : Value} {t : TypeId} {fr : Nat × Nat} (h : w.heap[g]? = some (.cells #[x0, x1, x2, x3] t fr)) (a b c d : Value) :
    ((((w.setCell ⟨g, 0, none⟩ a).setCell ⟨g, 1, none⟩ b).setCell ⟨g, 2, none⟩ c).setCell ⟨g, 3, none⟩ d).heap[g]? = some (.cells #[a, b, c, d] t fr) ∧
    Kept g (g + 1) w ((((w.setCell ⟨g, 0, none⟩ a).setCell ⟨g, 1, none⟩ b).setCell ⟨g, 2, none⟩ c).setCell ⟨g, 3, none⟩ d) ∧
    ((((w.setCell ⟨g, 0, none⟩ a).setCell ⟨g, 1, none⟩ b).setCell ⟨g, 2, none⟩ c).setCell ⟨g, 3, none⟩ d).heap.size = w.heap.size := by
  refine ⟨by simpa using box_set (i := 3) (u := d) (box_set (i := 2) (u := c) (box_set (i := 1) (u := b) (box_set (i := 0) (u := a) h))), ?_, by simp [World.setCell]⟩
  exact (((kept_setCell (Nat.le_refl _) (Nat.lt_succ_self _) _).trans (kept_setCell (Nat.le_refl _) (Nat.lt_succ_self _) _)).trans (kept_setCell (Nat.le_refl _) (Nat.lt_succ_self _) _)).trans (kept_setCell (Nat.le_refl _) (Nat.lt_succ_self _) _)
/-- A slice of the call's own lies nowhere, or behind. -/
def Behind (v : Value) (n : Nat) : Prop := v.ownBlock = none ∨ ∃ k, v.ownBlock = some k ∧ n ≤ k
theorem KeepT.kept {g : Nat} {v1 v2 : Value} {w1 wr w2 : World} (hk : KeepT g v1 v2 wr w2) (K : Kept g (g + 1) w1 wr) (o1 : Behind v1 w1.heap.size) (o2 : Behind v2 w1.heap.size) : Kept g (g + 1) w1 w2 := by
  refine ⟨hk.os.trans K.os, hk.tape.trans K.tape, hk.output.trans K.output, Nat.le_trans K.size hk.size, fun k hl hne => ?_⟩
  rw [hk.block k (Nat.lt_of_lt_of_le hl K.size) (by omega) ?_ ?_, K.block k hl hne]
  · intro e
    rcases o1 with h | ⟨m, h, hm⟩
    · rw [h] at e; cases e
    · rw [h] at e; cases e; omega
  · intro e
    rcases o2 with h | ⟨m, h, hm⟩
    · rw [h] at e; cases e
    · rw [h] at e; cases e; omega
theorem Behind.next {v v' : Value} {n m : Nat} (h : Behind v n) (h2 : v'.ownBlock = v.ownBlock ∨ ∃ k, v'.ownBlock = some k ∧ m ≤ k) (hm : n ≤ m) : Behind v' n := by
  rcases h2 with h2 | ⟨k, h2, h3⟩
  · unfold Behind; rw [h2]; exact h
  · exact .inr ⟨k, h2, by omega⟩
/-- The box that is read. -/
theorem OwnT.tilbox {w : World} {g : Nat} {x : TileD} {a b : Option Addr} {n m c d : Nat} (h : OwnT w g x (.slice a n c) (.slice b m d)) : n = x.values.length ∧ m = x.counts.length ∧ TilBox w g x a c b d := by
  obtain ⟨a', c', e1, -, -⟩ := h.o1.shape
  obtain ⟨b', d', e2, -, -⟩ := h.o2.shape
  injection e1 with e1 e3 e4
  injection e2 with e2 e5 e6
  subst e3; subst e5
  obtain ⟨c0, c1, c2, c3⟩ := h.cells
  exact ⟨rfl, rfl, c0, c1, c2, c3, by have := h.ls; unfold maxLen; omega, (h.o1.ints h.kv).read, (h.o2.ints h.kc).read, h.kb⟩
theorem OwnI.one {w : World} {B : Nat} {v : Value} {l : List Int} (h : OwnI w B v l) (hs : ∀ s ∈ l, I64 s) : ∃ k, IntsW w k (k + 1) v l ∧ (v.ownBlock = some k ∨ l = []) ∧ (v.ownBlock = none → l = []) := by
  have hsh := h
  rcases h.2 with ⟨hv, h0⟩ | ⟨g, cap, cur, hv, hg, hgh, h1, h2, h3, h4⟩
  · have hl : l = [] := List.eq_nil_of_length_eq_zero h0
    subst hl
    refine ⟨0, ⟨⟨rfl, none, 0, ?_, Nat.le_refl _, by unfold maxLen; omega, .inl rfl⟩, by simp⟩, .inr rfl, fun _ => rfl⟩
    simpa using hv
  · have hw := h.ints hs
    refine ⟨g, ?_, .inl (by rw [hv]; rfl), fun e => by rw [hv] at e; simp [Value.ownBlock] at e⟩
    obtain ⟨⟨q1, a, c, q2, q3, q4, q5⟩, q6⟩ := hw
    refine ⟨⟨q1, a, c, q2, q3, q4, ?_⟩, q6⟩
    rcases q5 with q5 | ⟨g', off, cur', q7, q8, q9, q10⟩
    · exact .inl q5
    · rw [hv] at q2
      rw [q7] at q2
      injection q2 with q2
      cases q2
      exact .inr ⟨g, 0, cur', q7, Nat.le_refl _, Nat.lt_succ_self _, q10⟩
/-- A read set, with the blocks of its slices. -/
theorem OwnT.tilX {w : World} {g lo hi : Nat} {x : TileD} {v1 v2 : Value} (h : OwnT w g x v1 v2) (hlo : lo ≤ g) (hhi : hi = w.heap.size) (h2 : lo + 2 ≤ hi ∨ x.values ≠ []) : TilX w lo hi (.agg #[.string x.letters, v1, v2, .int .i64 x.blanks]) x := by
  subst hhi
  obtain ⟨k1, r1, o1, n1⟩ := h.o1.one h.kv
  obtain ⟨k2, r2, o2, n2⟩ := h.o2.one h.kc
  have hll : x.values.length = x.counts.length := by rw [h.lv, h.lc]
  have any1 : x.values = [] → ∀ k, IntsW w k (k + 1) v1 x.values := by
    intro e k
    obtain ⟨⟨q1, a, c, q2, q3, q4, q5⟩, q6⟩ := r1
    exact ⟨⟨q1, a, c, q2, q3, q4, .inl (by rw [e]; rfl)⟩, q6⟩
  have any2 : x.counts = [] → ∀ k, IntsW w k (k + 1) v2 x.counts := by
    intro e k
    obtain ⟨⟨q1, a, c, q2, q3, q4, q5⟩, q6⟩ := r2
    exact ⟨⟨q1, a, c, q2, q3, q4, .inl (by rw [e]; rfl)⟩, q6⟩
  have hls : x.letters.size ≤ maxLen := by have := h.ls; unfold maxLen; omega
  by_cases hv : x.values = []
  · have hc : x.counts = [] := List.eq_nil_of_length_eq_zero (by rw [← hll, hv]; rfl)
    have h2 := h2.resolve_right (by rw [hv]; simp)
    exact ⟨v1, v2, lo, lo + 1, rfl, hls, any1 hv lo, any2 hc (lo + 1), h.kb, by omega, by omega, by omega, by omega, by omega⟩
  · have hc : x.counts ≠ [] := by intro e; apply hv; exact List.eq_nil_of_length_eq_zero (by rw [hll, e]; rfl)
    have b1 : v1.ownBlock = some k1 := o1.resolve_right hv
    have b2 : v2.ownBlock = some k2 := o2.resolve_right hc
    have l1 := World.ownsRow.lt h.o1 k1 b1
    have l2 := World.ownsRow.lt h.o2 k2 b2
    have hne : k1 ≠ k2 := by
      rcases h.ne with e | e
      · rw [b1] at e; cases e
      · rw [b1, b2] at e; intro e2; exact e (by rw [e2])
    exact ⟨v1, v2, k1, k2, rfl, hls, r1, r2, h.kb, hne, by omega, by omega, by omega, by omega⟩
attribute [local irreducible] Calls
set_option maxHeartbeats 8000000 in
set_option maxRecDepth 20000 in
theorem l02Read_any (s : ByteArray) (w : World) (hs : s.size ≤ 1048576) :
    Calls Tryz.prog 48 #[.string s] w fun e w' => ∃ v', e = .returned (.tuple #[v', .bool (rtB s)]) ∧ TilX w' w.heap.size w'.heap.size v' (rtV s) ∧ Below w.heap.size w w' := by
  have hb0 : Below w.heap.size w ((w.alloc (.cells #[.string ⟨#[]⟩, .slice none 0 0, .slice none 0 0, .int .i64 0] 26)).alloc (.cells #[.string ⟨#[]⟩, .slice none 0 0, .slice none 0 0, .int .i64 0] 26)) := ((Below.refl _ _).alloc (Nat.le_refl _) _).alloc (by simp) _
  have r0 := heap2_0 w (.cells #[.string ⟨#[]⟩, .slice none 0 0, .slice none 0 0, .int .i64 0] 26) (.cells #[.string ⟨#[]⟩, .slice none 0 0, .slice none 0 0, .int .i64 0] 26)
  have r1 := heap2_1 w (.cells #[.string ⟨#[]⟩, .slice none 0 0, .slice none 0 0, .int .i64 0] 26) (.cells #[.string ⟨#[]⟩, .slice none 0 0, .slice none 0 0, .int .i64 0] 26)
  go_enter Tryz.func48, Tryz.ntmps48
  go_wp2_with fail
  refine (l01Split_any s _ 32 _ rfl hs).mono ?_
  rintro e w1 ⟨v1, rfl, hv1, hb1⟩
  have hz1 : w.heap.size + 2 ≤ w1.heap.size := by have := hb1.size; simpa using this
  have hr1 := (hb1.block (w.heap.size) (by simp; omega)).trans r0
  have hg1 := (hb1.block (w.heap.size + 1) (by simp)).trans r1
  have HB1 := Lib.hid (hb0.trans (hb1.mono hb0.size))
  have HV := Lib.hid hv1
  have HR1 := Lib.hid hr1
  obtain ⟨L, hL⟩ : ∃ L, L = splitW 32 s := ⟨_, rfl⟩
  have hsm : ∀ p ∈ splitW 32 s, p.size ≤ s.size := fun p hp => splitW_part hp
  have hsp : splitC 32 s.data.toList = L.map (·.data.toList) := by rw [hL]; exact splitW_data 32 s
  rw [← hL] at HV hsm
  rw [World.size_alloc, World.size_alloc] at HV
  obtain ⟨pa, pc, rfl, hl, hc, -⟩ := HV.out.read.shape
  unfold maxLen at hc
  have HSP := Lib.hid hsp
  have HSM := Lib.hid hsm
  have HT1 : Hid (OwnT w1 (w.heap.size + 1) emptyT (.slice none 0 0) (.slice none 0 0)) := Lib.hid ⟨hg1, OwnI.nil _ _, OwnI.nil _ _, .inl rfl, by simp [emptyT, ByteArray.size], rfl, rfl, I64.zero, by simp [emptyT], by simp [emptyT]⟩
  have d0 : w1.cell? ⟨w.heap.size, 0, none⟩ = some (.string ⟨#[]⟩) := (box_cell (i := 0) hr1 rfl).1
  have d1 : w1.cell? ⟨w.heap.size, 1, none⟩ = some (.slice none 0 0) := (box_cell (i := 1) hr1 rfl).1
  have d2 : w1.cell? ⟨w.heap.size, 2, none⟩ = some (.slice none 0 0) := (box_cell (i := 2) hr1 rfl).1
  have d3 : w1.cell? ⟨w.heap.size, 3, none⟩ = some (.int .i64 0) := (box_cell (i := 3) hr1 rfl).1
  have z0 : w1.frozen? ⟨w.heap.size, 0, none⟩ = false := (box_cell (i := 0) hr1 rfl).2
  have z1 : w1.frozen? ⟨w.heap.size, 1, none⟩ = false := (box_cell (i := 1) hr1 rfl).2
  have z2 : w1.frozen? ⟨w.heap.size, 2, none⟩ = false := (box_cell (i := 2) hr1 rfl).2
  have z3 : w1.frozen? ⟨w.heap.size, 3, none⟩ = false := (box_cell (i := 3) hr1 rfl).2
  clear hv1 hb1 hL r0 r1 hb0 hr1 hg1 hsp hsm
  by_cases hlong : 27 < L.length
  · have Hno := Lib.hid (rt_none (readT_long (by rw [HSP.out, List.length_map]; exact hlong)))
    go_wp2
    have st := store4 HR1.out (.string ⟨#[]⟩) (.slice none 0 0) (.slice none 0 0) (.int .i64 0)
    refine bodyPost_ret (v := .tuple #[.agg #[.string ⟨#[]⟩, .slice none 0 0, .slice none 0 0, .int .i64 0], .bool false]) (results_cell_rowT (p := 2) (u := 3) (ty := 26) rfl _ _ w.heap.size _ _ _ _ rfl st.1 Tryz.underlying26 rfl infoTil) rfl ⟨_, by rw [Hno.out.2], ?_, HB1.out.trans (st.2.1.below (Nat.le_refl _) HB1.out.size)⟩
    rw [Hno.out.1]
    exact emptyT_X _ _ (by rw [st.2.2]; omega)
  · have Hle := Lib.hid hlong
    have hz27 : L.length ≤ 27 := by omega
    have hlI : (L.length : Int) ≤ 27 := by omega
    have hlB : decide (27 < (L.length : Int)) = false := by simpa using hlI
    clear hlong
    clear d0 d1 d2 d3 z0 z1 z2 z3
    go_wp2
    go_loopw [6] (fun i wr => ∃ (j : Nat) (x : TileD) (v1 v2 : Value), j ≤ L.length ∧ i = .int .i64 (j : Int) ∧ Hid (foldO specStep emptyT ((L.map (·.data.toList)).take j) = some x) ∧ x.letters.size ≤ j ∧ Hid (OwnT wr (w.heap.size + 1) x v1 v2) ∧ Hid (Behind v1 w1.heap.size) ∧ Hid (Behind v2 w1.heap.size) ∧ Hid (Kept (w.heap.size + 1) (w.heap.size + 1 + 1) w1 wr)) (fun i _ => L.length - (intOf i).toNat)
    case atStart => exact ⟨0, emptyT, _, _, by omega, rfl, Lib.hid rfl, by simp [emptyT, ByteArray.size], HT1, Lib.hid (.inl rfl), Lib.hid (.inl rfl), Lib.hid (Kept.refl _ _ _)⟩
    case round =>
      obtain ⟨j, x, v1, v2, hj, rfl, Hf, hxs, HTr, HO1, HO2, HKr⟩ := hrel
      have hzr := HKr.out.size
      have HBr := Lib.hid (HB1.out.trans (HKr.out.below (by omega) HB1.out.size))
      have HVr := Lib.hid (HV.out.kept HKr.out (.inr (Nat.le_refl _)))
      have HRr := Lib.hid ((HKr.out.block w.heap.size (by omega) (.inl (by omega))).trans HR1.out)
      by_cases hlt : j < L.length
      · obtain ⟨pa', pc', e1, -, -, hcs⟩ := HVr.out.read.shape
        injection e1 with e1 e2 e3
        subst e1
        subst e3
        obtain ⟨pb, po, rfl, hcell, -⟩ := hcs j hlt
        have hltI : (j : Int) < (L.length : Int) := by omega
        clear hcs e2
        go_wp2_with fail
        refine (l02Word_any _ x v1 v2 L[j] _ HTr.out (Nat.le_trans (HSM.out _ (List.getElem_mem _)) hs)).mono ?_
        rintro e w2 ⟨b, v1', v2', rfl, hk, ho1, ho2, hq⟩
        have hk2 := hk.kept HKr.out HO1.out HO2.out
        have hz2 := hk.size
        have HB2 := Lib.hid (HB1.out.trans (hk2.below (by omega) HB1.out.size))
        have HR2 := Lib.hid ((hk2.block w.heap.size (by omega) (.inl (by omega))).trans HR1.out)
        rcases hq with ⟨rfl, hn⟩ | ⟨rfl, x', hx', hsz, ht⟩
        · have hjl : j < (L.map (·.data.toList)).length := by simpa using hlt
          have Hno := Lib.hid (rt_none (readT_stop (fun _ H => spec_reads H) (by rw [HSP.out]; exact fold_stop hjl Hf.out (by simpa using hn))))
          have d0 : w2.cell? ⟨w.heap.size, 0, none⟩ = some (.string ⟨#[]⟩) := (box_cell (i := 0) HR2.out rfl).1
          have d1 : w2.cell? ⟨w.heap.size, 1, none⟩ = some (.slice none 0 0) := (box_cell (i := 1) HR2.out rfl).1
          have d2 : w2.cell? ⟨w.heap.size, 2, none⟩ = some (.slice none 0 0) := (box_cell (i := 2) HR2.out rfl).1
          have d3 : w2.cell? ⟨w.heap.size, 3, none⟩ = some (.int .i64 0) := (box_cell (i := 3) HR2.out rfl).1
          have z0 : w2.frozen? ⟨w.heap.size, 0, none⟩ = false := (box_cell (i := 0) HR2.out rfl).2
          have z1 : w2.frozen? ⟨w.heap.size, 1, none⟩ = false := (box_cell (i := 1) HR2.out rfl).2
          have z2 : w2.frozen? ⟨w.heap.size, 2, none⟩ = false := (box_cell (i := 2) HR2.out rfl).2
          have z3 : w2.frozen? ⟨w.heap.size, 3, none⟩ = false := (box_cell (i := 3) HR2.out rfl).2
          clear hn hk hk2 ho1 ho2
          go_wp2
          have st := store4 HR2.out (.string ⟨#[]⟩) (.slice none 0 0) (.slice none 0 0) (.int .i64 0)
          refine bodyPost_ret (v := .tuple #[.agg #[.string ⟨#[]⟩, .slice none 0 0, .slice none 0 0, .int .i64 0], .bool false]) (results_cell_rowT (p := 2) (u := 3) (ty := 26) rfl _ _ w.heap.size _ _ _ _ rfl st.1 Tryz.underlying26 rfl infoTil) rfl ⟨_, by rw [Hno.out.2], ?_, HB2.out.trans (st.2.1.below (Nat.le_refl _) HB2.out.size)⟩
          rw [Hno.out.1]
          exact emptyT_X _ _ (by rw [st.2.2]; omega)
        · have hjl : j < (L.map (·.data.toList)).length := by simpa using hlt
          have Hf2 := Lib.hid (fold_step hjl Hf.out (show specStep x (L.map (·.data.toList))[j] = some x' by simpa using hx'))
          have HT2 := Lib.hid (ht (by omega))
          have HN1 := Lib.hid (HO1.out.next ho1 hzr)
          have HN2 := Lib.hid (HO2.out.next ho2 hzr)
          have HK2 := Lib.hid hk2
          clear hk hk2 ho1 ho2 hx' ht
          go_wp2
          go_roundw
          case rel => exact ⟨j + 1, x', v1', v2', by omega, by go_num, Hf2, by omega, HT2, HN1, HN2, HK2⟩
          case measure => simp [intOf]; omega
      · obtain rfl : j = L.length := by omega
        have hfull : foldO specStep emptyT (splitC 32 s.data.toList) = some x := by
          have h := Hf.out
          rw [List.take_of_length_le (by simp)] at h
          rw [HSP.out]; exact h
        have HE := Lib.hid (readT_end (fun _ H => spec_reads H) hfull)
        obtain ⟨a, c, rfl, -, -⟩ := HTr.out.o1.shape
        obtain ⟨b, d, rfl, -, -⟩ := HTr.out.o2.shape
        obtain ⟨-, -, hbx⟩ := HTr.out.tilbox
        have HBX := Lib.hid hbx
        obtain ⟨k0, k1, k2, k3, -, -, -, -⟩ := hbx
        clear hfull Hf
        go_wp2_with fail
        refine (l02Ok_any _ a c b d x _ HBX.out.c0 HBX.out.c1 HBX.out.c2 HBX.out.c3 HBX.out.l HBX.out.v HBX.out.n HBX.out.k).mono ?_
        cases hT : tilB x
        all_goals
          have HT := Lib.hid hT
          clear hT
          rintro e w2 ⟨rfl, q, hw2⟩
          have hb2 : Below wr.heap.size wr w2 := by rw [hw2]; exact below_drewN (Below.refl _ _) _
          have HB2 := Lib.hid (HBr.out.trans (hb2.mono HBr.out.size))
          have HR2 := Lib.hid ((hb2.block w.heap.size (by omega)).trans HRr.out)
          have HX2 := Lib.hid (HBX.out.below hb2)
          have HTT2 := Lib.hid (HTr.out.below hb2)
          have hz2 := hb2.size
          clear hw2 hb2 k0 k1 k2 k3
        · have Hno := Lib.hid (rt_none (by rw [HE.out, if_neg (by rw [HT.out]; simp)]))
          have d0 : w2.cell? ⟨w.heap.size, 0, none⟩ = some (.string ⟨#[]⟩) := (box_cell (i := 0) HR2.out rfl).1
          have d1 : w2.cell? ⟨w.heap.size, 1, none⟩ = some (.slice none 0 0) := (box_cell (i := 1) HR2.out rfl).1
          have d2 : w2.cell? ⟨w.heap.size, 2, none⟩ = some (.slice none 0 0) := (box_cell (i := 2) HR2.out rfl).1
          have d3 : w2.cell? ⟨w.heap.size, 3, none⟩ = some (.int .i64 0) := (box_cell (i := 3) HR2.out rfl).1
          have z0 : w2.frozen? ⟨w.heap.size, 0, none⟩ = false := (box_cell (i := 0) HR2.out rfl).2
          have z1 : w2.frozen? ⟨w.heap.size, 1, none⟩ = false := (box_cell (i := 1) HR2.out rfl).2
          have z2 : w2.frozen? ⟨w.heap.size, 2, none⟩ = false := (box_cell (i := 2) HR2.out rfl).2
          have z3 : w2.frozen? ⟨w.heap.size, 3, none⟩ = false := (box_cell (i := 3) HR2.out rfl).2
          go_wp2
          have st := store4 HR2.out (.string ⟨#[]⟩) (.slice none 0 0) (.slice none 0 0) (.int .i64 0)
          refine bodyPost_ret (v := .tuple #[.agg #[.string ⟨#[]⟩, .slice none 0 0, .slice none 0 0, .int .i64 0], .bool false]) (results_cell_rowT (p := 2) (u := 3) (ty := 26) rfl _ _ w.heap.size _ _ _ _ rfl st.1 Tryz.underlying26 rfl infoTil) rfl ⟨_, by rw [Hno.out.2], ?_, HB2.out.trans (st.2.1.below (Nat.le_refl _) HB2.out.size)⟩
          rw [Hno.out.1]
          exact emptyT_X _ _ (by rw [st.2.2]; omega)
        · have HP := Lib.hid (tilB_P HT.out)
          obtain ⟨r, hr⟩ : ∃ r, r = (⟨(textL x).toArray⟩ : ByteArray) := ⟨_, rfl⟩
          go_wp2_with fail
          refine (l02Text_any _ x a c b d _ HX2.out HP.out).mono ?_
          rw [← hr]
          rintro e w3 ⟨rfl, hb3⟩
          have HB3 := Lib.hid (HB2.out.trans (hb3.mono HB2.out.size))
          have HR3 := Lib.hid ((hb3.block w.heap.size (by omega)).trans HR2.out)
          obtain ⟨k0, k1, k2, k3, -, -, -, -⟩ := HX2.out.below hb3
          have HTT3 := Lib.hid (HTT2.out.below hb3)
          have hz3 := hb3.size
          clear hb3
          have d0 : w3.cell? ⟨w.heap.size, 0, none⟩ = some (.string ⟨#[]⟩) := (box_cell (i := 0) HR3.out rfl).1
          have d1 : w3.cell? ⟨w.heap.size, 1, none⟩ = some (.slice none 0 0) := (box_cell (i := 1) HR3.out rfl).1
          have d2 : w3.cell? ⟨w.heap.size, 2, none⟩ = some (.slice none 0 0) := (box_cell (i := 2) HR3.out rfl).1
          have d3 : w3.cell? ⟨w.heap.size, 3, none⟩ = some (.int .i64 0) := (box_cell (i := 3) HR3.out rfl).1
          have z0 : w3.frozen? ⟨w.heap.size, 0, none⟩ = false := (box_cell (i := 0) HR3.out rfl).2
          have z1 : w3.frozen? ⟨w.heap.size, 1, none⟩ = false := (box_cell (i := 1) HR3.out rfl).2
          have z2 : w3.frozen? ⟨w.heap.size, 2, none⟩ = false := (box_cell (i := 2) HR3.out rfl).2
          have z3 : w3.frozen? ⟨w.heap.size, 3, none⟩ = false := (box_cell (i := 3) HR3.out rfl).2
          by_cases hrs : r = s
          · subst hrs
            have hq : (r.toList != r.toList) = false := by simp
            have Hyes := Lib.hid (rt_some (s := r) (x := x) (by rw [HE.out, if_pos ⟨HT.out, by rw [hr]⟩]))
            clear hr
            go_wp2
            have st := store4 HR3.out (.string x.letters) (.slice a x.values.length c) (.slice b x.counts.length d) (.int .i64 x.blanks)
            refine bodyPost_ret (v := .tuple #[.agg #[.string x.letters, .slice a x.values.length c, .slice b x.counts.length d, .int .i64 x.blanks], .bool true]) (results_cell_rowT (p := 2) (u := 3) (ty := 26) rfl _ _ w.heap.size _ _ _ _ rfl st.1 Tryz.underlying26 rfl infoTil) rfl ⟨_, by rw [Hyes.out.2], ?_, HB3.out.trans (st.2.1.below (Nat.le_refl _) HB3.out.size)⟩
            rw [Hyes.out.1]
            exact ((HTT3.out.tilX (lo := w.heap.size + 1) (by omega) rfl (.inr (by intro e; have h1 := HP.out.lv; have h2 := HP.out.n1; rw [e] at h1; simp at h1; omega))).kept st.2.1 (.inr (Nat.le_refl _))).mono (Nat.le_succ _) (by rw [st.2.2]; exact Nat.le_refl _)
          · have hq : (r.toList == s.toList) = false := by
              rw [beq_eq_false_iff_ne, Lib.toList_data, Lib.toList_data]; intro e; exact hrs (ba_inj e)
            have Hno := Lib.hid (rt_none (s := s) (by rw [HE.out, if_neg (by rintro ⟨-, e⟩; exact hrs (hr.trans (by rw [e])))]))
            clear hr hrs
            go_wp2
            have st := store4 HR3.out (.string ⟨#[]⟩) (.slice none 0 0) (.slice none 0 0) (.int .i64 0)
            refine bodyPost_ret (v := .tuple #[.agg #[.string ⟨#[]⟩, .slice none 0 0, .slice none 0 0, .int .i64 0], .bool false]) (results_cell_rowT (p := 2) (u := 3) (ty := 26) rfl _ _ w.heap.size _ _ _ _ rfl st.1 Tryz.underlying26 rfl infoTil) rfl ⟨_, by rw [Hno.out.2], ?_, HB3.out.trans (st.2.1.below (Nat.le_refl _) HB3.out.size)⟩
            rw [Hno.out.1]
            exact emptyT_X _ _ (by rw [st.2.2]; omega)
end Go.Proofs.YtinmmbnlflmobaaGreatDoor
