/- WaysToMake of the program: a closure that calls itself. Conditions: a pile, a word. -/
import Derived.Test.YthpjinfkagllfaaWy
import Derived.Test.YthpjinfkagllfaaGz
import Derived.Test.YthpjinfkagllfaaAt
import Derived.Test.YthpjinfkagllfaaRb
import Derived.BigQuiet
import Derived.Deep.DeepCutAuto
set_option linter.unusedSimpArgs false
namespace Go.Proofs.Ythpjinfkagllfaa
open Go.RowKit
/-- The closure. -/
def wayF (wb yb bf cb kb : Nat) : Value := .func (.func 75) #[] #[.pointer (some ⟨wb, 0, none⟩), .pointer (some ⟨yb, 0, none⟩), .pointer (some ⟨bf, 0, none⟩), .pointer (some ⟨cb, 0, none⟩), .pointer (some ⟨kb, 0, none⟩)]
/-- Six blocks, no two of them one. -/
structure Six (a b c d e f : Nat) : Prop where
  ab : a ≠ b
  ac : a ≠ c
  ad : a ≠ d
  ae : a ≠ e
  af : a ≠ f
  bc : b ≠ c
  bd : b ≠ d
  be : b ≠ e
  bf : b ≠ f
  cd : c ≠ d
  ce : c ≠ e
  cf : c ≠ f
  de : d ≠ e
  df : d ≠ f
  ef : e ≠ f
/-- What lies in the closure's variables. -/
structure WayS (w : World) (B wb yb bf bg cb kb cap : Nat) (s : ByteArray) (f : Nat → Int) (yv : Value) (l : List ByteArray) (bs : List UInt8) : Prop where
  word : w.heap[wb]? = some (.cells #[.string s] 9 (0, 0))
  buf : w.heap[bf]? = some (.cells #[.slice (some ⟨bg, 0, none⟩) bs.length cap] 30 (0, 0))
  bytes : RowB w bg bs
  cnt : w.heap[cb]? = some (.cells (cs f) 53 (0, 0))
  walk : w.heap[kb]? = some (.cells #[wayF wb yb bf cb kb] 79 (0, 0))
  ways : w.heap[yb]? = some (.cells #[yv] 22 (0, 0))
  own : OwnS w B yv l
  apart : ∀ k, yv.ownBlock = some k → k ≠ wb ∧ k ≠ yb ∧ k ≠ bf ∧ k ≠ bg ∧ k ≠ cb ∧ k ≠ kb
  len : bs.length = s.size
/-- What may have turned: the ways, the buffer, the counts; new blocks. -/
structure Fr (w w' : World) (yb bg cb : Nat) (yv yv' : Value) : Prop where
  os : w'.os = w.os
  tape : w'.tape = w.tape
  output : w'.output = w.output
  size : w.heap.size ≤ w'.heap.size
  block : ∀ k, k < w.heap.size → k ≠ yb → k ≠ bg → k ≠ cb → yv.ownBlock ≠ some k → w'.heap[k]? = w.heap[k]?
  own : ∀ k, yv'.ownBlock = some k → yv.ownBlock = some k ∨ w.heap.size ≤ k
theorem Fr.refl (w : World) (yb bg cb : Nat) (yv : Value) : Fr w w yb bg cb yv yv := ⟨rfl, rfl, rfl, Nat.le_refl _, fun _ _ _ _ _ _ => rfl, fun _ h => .inl h⟩
theorem Fr.trans {a b c : World} {yb bg cb : Nat} {u v x : Value} (h : Fr a b yb bg cb u v) (k : Fr b c yb bg cb v x) : Fr a c yb bg cb u x :=
  ⟨k.os.trans h.os, k.tape.trans h.tape, k.output.trans h.output, Nat.le_trans h.size k.size,
    fun i hi h1 h2 h3 h4 => (k.block i (Nat.lt_of_lt_of_le hi h.size) h1 h2 h3 (fun e => by rcases h.own i e with e | e; exact h4 e; omega)).trans (h.block i hi h1 h2 h3 h4),
    fun i hi => by
      rcases k.own i hi with e | e
      · exact h.own i e
      · exact .inr (Nat.le_trans h.size e)⟩
theorem Fr.of_below {w w' : World} {yb bg cb : Nat} {yv : Value} (h : Below w.heap.size w w') : Fr w w' yb bg cb yv yv := ⟨h.os, h.tape, h.output, h.size, fun k hk _ _ _ _ => h.block k hk, fun _ h => .inl h⟩
theorem Fr.set {w : World} {yb bg cb : Nat} {yv : Value} (g o : Nat) (u : Value) (h : g = yb ∨ g = bg ∨ g = cb) : Fr w (w.setCell ⟨g, o, none⟩ u) yb bg cb yv yv :=
  ⟨rfl, rfl, rfl, by simp [World.setCell], fun k _ h1 h2 h3 _ => Below.heap_setCell _ _ _ _ (by show k ≠ g; omega), fun _ h => .inl h⟩
theorem Fr.below {w w' : World} {yb bg cb B : Nat} {yv yv' : Value} (h : Fr w w' yb bg cb yv yv') (hB : B ≤ yb ∧ B ≤ bg ∧ B ≤ cb ∧ B ≤ w.heap.size) (ho : ∀ k, yv.ownBlock = some k → B ≤ k) : Below B w w' :=
  ⟨h.os, h.tape, h.output, h.size, fun k hk => h.block k (by omega) (by omega) (by omega) (by omega) (fun e => by have := ho k e; omega)⟩
theorem lt_of_heap {w : World} {k : Nat} {o : Obj} (h : w.heap[k]? = some o) : k < w.heap.size := (Array.getElem?_eq_some_iff.1 h).1
theorem WayS.below {w w' : World} {B wb yb bf bg cb kb cap s f yv l bs} (h : WayS w B wb yb bf bg cb kb cap s f yv l bs) (hb : Below w.heap.size w w') : WayS w' B wb yb bf bg cb kb cap s f yv l bs := by
  obtain ⟨h1, h2, h3, h4, h5, h6, h7, h8, h9⟩ := h
  exact ⟨(hb.block _ (lt_of_heap h1)).trans h1, (hb.block _ (lt_of_heap h2)).trans h2, h3.below hb, (hb.block _ (lt_of_heap h4)).trans h4, (hb.block _ (lt_of_heap h5)).trans h5, (hb.block _ (lt_of_heap h6)).trans h6, h7.below hb, h8, h9⟩
theorem grown_setCell (w : World) (g o : Nat) (v : Value) : w.grownBy (w.setCell ⟨g, o, none⟩ v) (some g) :=
  ⟨rfl, rfl, rfl, by simp [World.setCell], fun k _ hk => Below.heap_setCell _ _ _ _ (by show k ≠ g; exact fun e => hk (by rw [e]))⟩
/-- A count is stored. -/
theorem WayS.count {w : World} {B wb yb bf bg cb kb cap s f yv l bs} (h : WayS w B wb yb bf bg cb kb cap s f yv l bs) (S : Six wb yb bf bg cb kb) {p : Nat} (hp : p < 27) (n : Int) :
    WayS (w.setCell ⟨cb, p, none⟩ (.int .i64 n)) B wb yb bf bg cb kb cap s (upd f p n) yv l bs := by
  obtain ⟨h1, h2, h3, h4, h5, h6, h7, h8, h9⟩ := h
  have hg := grown_setCell w cb p (.int .i64 n)
  have other : ∀ k, k ≠ cb → k < w.heap.size → (w.setCell ⟨cb, p, none⟩ (.int .i64 n)).heap[k]? = w.heap[k]? := fun k hk hl => hg.block k hl (fun e => hk (Option.some.inj e))
  refine ⟨(other _ S.ae (lt_of_heap h1)).trans h1, (other _ S.ce (lt_of_heap h2)).trans h2, h3.of_block (other _ S.de h3.lt), ?_, (other _ S.ef.symm (lt_of_heap h5)).trans h5, (other _ S.be (lt_of_heap h6)).trans h6, World.ownsRow.kept h7 hg ?_, h8, h9⟩
  · rw [heap_setCell_same _ _ _ _ _ _ h4, cs_set _ _ _ hp]
  · cases ho : yv.ownBlock with
    | none => exact .inl rfl
    | some k => exact .inr fun e => (h8 k ho).2.2.2.2.1 (Option.some.inj e)
/-- A byte of the buffer is stored. -/
theorem WayS.byte {w : World} {B wb yb bf bg cb kb cap s f yv l bs} (h : WayS w B wb yb bf bg cb kb cap s f yv l bs) (S : Six wb yb bf bg cb kb) (i : Nat) (x : UInt8) :
    WayS (w.setCell ⟨bg, i, none⟩ (.int .u8 x.toNat)) B wb yb bf bg cb kb cap s f yv l (bs.set i x) := by
  obtain ⟨h1, h2, h3, h4, h5, h6, h7, h8, h9⟩ := h
  have hg := grown_setCell w bg i (.int .u8 x.toNat)
  have other : ∀ k, k ≠ bg → k < w.heap.size → (w.setCell ⟨bg, i, none⟩ (.int .u8 x.toNat)).heap[k]? = w.heap[k]? := fun k hk hl => hg.block k hl (fun e => hk (Option.some.inj e))
  refine ⟨(other _ S.ad (lt_of_heap h1)).trans h1, ?_, ?_, (other _ S.de.symm (lt_of_heap h4)).trans h4, (other _ S.df.symm (lt_of_heap h5)).trans h5, (other _ S.bd (lt_of_heap h6)).trans h6, World.ownsRow.kept h7 hg ?_, h8, by rw [List.length_set]; exact h9⟩
  · rw [List.length_set]; exact (other _ S.cd (lt_of_heap h2)).trans h2
  · exact h3.set i x
  · cases ho : yv.ownBlock with
    | none => exact .inl rfl
    | some k => exact .inr fun e => (h8 k ho).2.2.2.1 (Option.some.inj e)
/-- A way is appended. -/
theorem WayS.way {w w' : World} {B wb yb bf bg cb kb cap s f yv l bs} (h : WayS w B wb yb bf bg cb kb cap s f yv l bs) (S : Six wb yb bf bg cb kb) {g n c : Nat} {x : ByteArray}
    (hown : OwnS w' B (.slice (some ⟨g, 0, none⟩) n c) (l ++ [x])) (hg : w.grownBy w' yv.ownBlock) (hl : some g = yv.ownBlock ∨ w.heap.size ≤ g) :
    WayS (w'.setCell ⟨yb, 0, none⟩ (.slice (some ⟨g, 0, none⟩) n c)) B wb yb bf bg cb kb cap s f (.slice (some ⟨g, 0, none⟩) n c) (l ++ [x]) bs ∧ Fr w (w'.setCell ⟨yb, 0, none⟩ (.slice (some ⟨g, 0, none⟩) n c)) yb bg cb yv (.slice (some ⟨g, 0, none⟩) n c) := by
  obtain ⟨h1, h2, h3, h4, h5, hy, h7, h8, h9⟩ := h
  have hg2 := grown_setCell w' yb 0 (.slice (some ⟨g, 0, none⟩) n c)
  have no : ∀ k, (k = wb ∨ k = yb ∨ k = bf ∨ k = bg ∨ k = cb ∨ k = kb) → some k ≠ yv.ownBlock := fun k hk e => by
    have := h8 k e.symm; omega
  have two : ∀ k, (k = wb ∨ k = bf ∨ k = bg ∨ k = cb ∨ k = kb) → k ≠ yb → k < w.heap.size → (w'.setCell ⟨yb, 0, none⟩ (.slice (some ⟨g, 0, none⟩) n c)).heap[k]? = w.heap[k]? := fun k hk hy hlt =>
    (hg2.block k (Nat.lt_of_lt_of_le hlt hg.size) (fun e => hy (Option.some.inj e))).trans (hg.block k hlt (no k (by omega)))
  have hgn : ∀ k, (k = wb ∨ k = yb ∨ k = bf ∨ k = bg ∨ k = cb ∨ k = kb) → k < w.heap.size → g ≠ k := fun k hk hlt e => by
    subst e
    rcases hl with hl | hl
    · exact no g hk hl
    · omega
  have l1 := lt_of_heap h1; have l2 := lt_of_heap h2; have l3 := h3.lt; have l4 := lt_of_heap h4; have l5 := lt_of_heap h5; have l6 := lt_of_heap hy
  refine ⟨⟨(two _ (.inl rfl) S.ab l1).trans h1, (two _ (by simp) S.bc.symm l2).trans h2, h3.of_block (two _ (by simp) S.bd.symm l3), (two _ (by simp) S.be.symm l4).trans h4, (two _ (by simp) S.bf.symm l5).trans h5,
    ?_, World.ownsRow.kept hown hg2 (.inr fun e => hgn yb (by simp) l6 (Option.some.inj e)), fun k hk => ?_, h9⟩, ⟨hg.os, hg.tape, hg.output, by simpa [World.setCell] using hg.size, fun k hk h1 _ _ h4 => ?_, fun k hk => ?_⟩⟩
  · have := (hg.block yb l6 (no yb (by simp))).trans hy
    exact src_set (i := 0) this
  · obtain rfl : g = k := by simpa [Value.ownBlock] using hk
    exact ⟨hgn wb (by simp) l1, hgn yb (by simp) l6, hgn bf (by simp) l2, hgn bg (by simp) l3, hgn cb (by simp) l4, hgn kb (by simp) l5⟩
  · exact (hg2.block k (Nat.lt_of_lt_of_le hk hg.size) (fun e => h1 (Option.some.inj e))).trans (hg.block k hk (fun e => h4 e.symm))
  · obtain rfl : g = k := by simpa [Value.ownBlock] using hk
    rcases hl with hl | hl
    · exact .inl hl.symm
    · exact .inr hl
def wayJ (P1 P2 : List ByteArray) : Nat → List ByteArray
  | 0 => []
  | 1 => P1
  | _ => P1 ++ P2
theorem upd_back (f : Nat → Int) (p : Nat) (a : Int) : upd (upd f p a) p (f p) = f := by
  funext k; unfold upd; split
  · rename_i e; rw [e]
  · rfl
theorem take_set_at {l : List UInt8} {i : Nat} (x : UInt8) (h : i < l.length) : (l.set i x).take (i + 1) = l.take i ++ [x] := by
  rw [List.take_succ_eq_append_getElem (by simpa using h), List.getElem_set_self]
  rw [List.take_set_of_le (Nat.le_refl _)]
theorem take_set_lo {l : List UInt8} {i : Nat} (x : UInt8) : (l.set i x).take i = l.take i := List.take_set_of_le (Nat.le_refl _)
theorem ix0 (a b c d : Value) (w : World) : (Instr.index 82 (.agg #[a, b, c, d]) (.int .i64 0)).run Try.prog w = .ok (.agg #[a, b]) w := by kernel_rfl
theorem ix1 (a b c d : Value) (w : World) : (Instr.index 82 (.agg #[a, b, c, d]) (.int .i64 1)).run Try.prog w = .ok (.agg #[c, d]) w := by kernel_rfl
theorem small_at {s : ByteArray} (h : smallAll s.data.toList = true) {i : Nat} (hi : i < s.size) : smallI s[i].toNat = true := by
  unfold smallAll at h
  rw [List.all_eq_true] at h
  exact h s[i] (List.getElem_mem (l := s.data.toList) (n := i) (by rw [Array.length_toList]; exact hi))
attribute [local irreducible] Calls
set_option maxHeartbeats 8000000 in
set_option maxRecDepth 20000 in
theorem walk_any (B wb yb bf bg cb kb cap : Nat) (s : ByteArray) (S : Six wb yb bf bg cb kb) (hB : B ≤ wb ∧ B ≤ yb ∧ B ≤ bf ∧ B ≤ bg ∧ B ≤ cb ∧ B ≤ kb) (hsm : smallAll s.data.toList = true) (hs12 : s.size ≤ 12) :
    ∀ (m i : Nat) (z : Int) (f : Nat → Int) (yv : Value) (l : List ByteArray) (bs : List UInt8) (w : World), i + m = s.size → z = (i : Int) → (∀ p, 0 ≤ f p ∧ f p ≤ 2097152) → l.length + 2 ^ m ≤ 8192 → WayS w B wb yb bf bg cb kb cap s f yv l bs →
    Calls Try.prog 75 #[.int .i64 z, .pointer (some ⟨wb, 0, none⟩), .pointer (some ⟨yb, 0, none⟩), .pointer (some ⟨bf, 0, none⟩), .pointer (some ⟨cb, 0, none⟩), .pointer (some ⟨kb, 0, none⟩)] w fun e w' => e = .returned (.tuple #[]) ∧
      ∃ bs' yv', WayS w' B wb yb bf bg cb kb cap s f yv' (l ++ (waysC f (s.data.toList.drop i)).map fun x => mkS (bs.take i ++ x)) bs' ∧ bs'.take i = bs.take i ∧ Fr w w' yb bg cb yv yv' := by
  have HS := Lib.hid S
  have Hsm := Lib.hid hsm
  have HBs := Lib.hid hB
  have hyb := hB.2.1
  clear S hsm hB
  intro m
  induction m with
  | zero =>
    intro i z f yv l bs w him hz hf hln hW
    subst hz
    have him2 : i = s.size := by omega
    obtain ⟨c1, z1⟩ := src_cell (i := 0) (v := .string s) hW.word rfl
    obtain ⟨c2, z2⟩ := src_cell (i := 0) (v := yv) hW.ways rfl
    obtain ⟨c3, z3⟩ := src_cell (i := 0) (v := .slice (some ⟨bg, 0, none⟩) bs.length cap) hW.buf rfl
    have hcv := hW.bytes.conv (cap := cap)
    have hown := hW.own
    have HW := Lib.hid hW
    have hl2 : l.length ≤ 4398046511104 := by omega
    have Him := Lib.hid him2
    have hq : (((i : Int)) == (s.size : Int)) = true := by rw [him2]; simp
    have hBw : B ≤ w.heap.size := by have := lt_of_heap hW.ways; omega
    clear hW him him2 hf hln
    go_enter Try.func75, Try.ntmps75
    go_wp2_with (at_builtin; refine app_str_at rfl _ _ rfl B yv l rfl hown ⟨bs.toArray⟩ rfl hl2 hBw ?_; intro g c w1 hown1 hbel1 hgr1 hloc1; have hy1 := Lib.hid ((hgr1.block yb (lt_of_heap HW.out.ways) (fun e => (HW.out.apart yb e.symm).2.1 rfl)).trans HW.out.ways); obtain ⟨d2, y2⟩ := src_cell (i := 0) (v := yv) hy1.out rfl)
    refine bodyPost_ret (results_none rfl _ _ _) rfl ?_
    obtain ⟨hw1, hfr⟩ := HW.out.way HS.out hown1 hgr1 hloc1
    refine ⟨rfl, bs, _, ?_, rfl, hfr⟩
    have e1 : s.data.toList.drop i = [] := List.drop_eq_nil_of_le (by rw [Him.out]; exact Nat.le_of_eq Array.length_toList)
    have e2 : bs.take i = bs := List.take_of_length_le (by rw [Him.out, HW.out.len]; exact Nat.le_refl _)
    rw [e1, e2]
    simpa [waysC, mkS] using hw1
  | succ m ih =>
    intro i z f yv l bs w him hz hf hln hW
    subst hz
    have hlt : i < s.size := by omega
    have hbl : i < bs.length := by rw [hW.len]; omega
    have hc := small_at Hsm.out hlt
    obtain ⟨p, hp27, hpl, hpc⟩ := small_tile hc
    have hcr := small_range hc
    obtain ⟨c0, hc0⟩ : ∃ c0, c0 = s[i] := ⟨_, rfl⟩
    obtain ⟨cc, hcc⟩ : ∃ cc, cc = capB s[i] := ⟨_, rfl⟩
    have hcap2 := capB_toNat hc
    rw [← hcc] at hcap2
    have hw1 : IntKind.u8.wrap ((s[i].toNat : Int) - 97) = (s[i].toNat : Int) - 97 := IntWalk.u8_in _ (by omega)
    have hw2 : IntKind.u8.wrap ((s[i].toNat : Int) - 97 + 65) = (cc.toNat : Int) := by rw [hcap2, IntWalk.u8_in _ (by omega)]; omega
    have hltI : (i : Int) < (s.size : Int) := by omega
    have hi0 : (0 : Int) ≤ (i : Int) := by omega
    obtain ⟨c1, z1⟩ := src_cell (i := 0) (v := .string s) hW.word rfl
    have hq : (((i : Int)) == (s.size : Int)) = false := by rw [beq_eq_false_iff_ne]; omega
    have HW := Lib.hid hW
    have Hf := Lib.hid hf
    have Hln := Lib.hid hln
    have Hcc := Lib.hid hcc; have Hc0 := Lib.hid hc0; have Hpc := Lib.hid hpc
    have Him := Lib.hid him
    have Ih := Lib.hid ih
    clear hW hf hln hcc hc0 hpc him ih hcap2
    go_enter Try.func75, Try.ntmps75
    go_wp2_with fail
    go_cut [7] (fun s7 wx => s7 = .pointer (some ⟨w.heap.size, 0, none⟩) ∧ wx = (w.alloc (.cells #[.int .i64 0, .int .u8 (cc.toNat : Int), .int .i64 (p : Int), .int .u8 (s[i].toNat : Int)] 82)).drew)
    case first =>
      refine wp_region_held_drew (S := (fun w' => w'.cell? ⟨wb, 0, none⟩ = some (.string s))) (by kernel_rfl) ?_ (fun hHeld => ?_)
      · exact c1
      refine wpAnyH_take (i := 0) (v := ?v1) rfl (by kernel_rfl) (by kernel_rfl) (by kernel_rfl) (fun _ _ _ h => h) (Or.inl ⟨by kernel_rfl, ?hy1⟩) (by assumption) ?_
      case hy1 => (intro w9 hS9; (try dsimp only at hS9); go_simp; (try with_reducible rfl))
      try simp only [Act.put, List.setIfInBounds_toArray, List.set_cons_zero, List.set_cons_succ]
      refine wpAnyH_take (i := 1) (v := ?v2) rfl (by kernel_rfl) (by kernel_rfl) (by kernel_rfl) (fun _ _ _ h => h) (Or.inl ⟨by kernel_rfl, ?hy2⟩) (by assumption) ?_
      case hy2 => (intro w9 hS9; (try dsimp only at hS9); go_simp; (try with_reducible rfl))
      try simp only [Act.put, List.setIfInBounds_toArray, List.set_cons_zero, List.set_cons_succ]
      refine wpAnyH_take (i := 2) (v := ?v3) rfl (by kernel_rfl) (by kernel_rfl) (by kernel_rfl) (fun _ _ _ h => h) (Or.inl ⟨by kernel_rfl, ?hy3⟩) (by assumption) ?_
      case hy3 => (intro w9 hS9; (try dsimp only at hS9); go_simp; (try with_reducible rfl))
      try simp only [Act.put, List.setIfInBounds_toArray, List.set_cons_zero, List.set_cons_succ]
      refine wpAnyH_take (i := 3) (v := ?v4) rfl (by kernel_rfl) (by kernel_rfl) (by kernel_rfl) (fun _ _ _ h => h) (Or.inl ⟨by kernel_rfl, ?hy4⟩) (by assumption) ?_
      case hy4 => (intro w9 hS9; (try dsimp only at hS9); go_simp; (try with_reducible rfl))
      try simp only [Act.put, List.setIfInBounds_toArray, List.set_cons_zero, List.set_cons_succ]
      refine wpAnyH_take (i := 4) (v := ?v5) rfl (by kernel_rfl) (by kernel_rfl) (by kernel_rfl) (fun _ _ _ h => h) (Or.inl ⟨by kernel_rfl, ?hy5⟩) (by assumption) ?_
      case hy5 => (intro w9 hS9; (try dsimp only at hS9); go_simp; (try with_reducible rfl))
      try simp only [Act.put, List.setIfInBounds_toArray, List.set_cons_zero, List.set_cons_succ]
      refine wpAnyH_take (i := 5) (v := ?v6) rfl (by kernel_rfl) (by kernel_rfl) (by kernel_rfl) (fun _ _ _ h => h) (Or.inl ⟨by kernel_rfl, ?hy6⟩) (by assumption) ?_
      case hy6 => (intro w9 hS9; (try dsimp only at hS9); go_simp; (try with_reducible rfl))
      try simp only [Act.put, List.setIfInBounds_toArray, List.set_cons_zero, List.set_cons_succ]
      refine wpAnyH_take (i := 6) (v := ?v7) rfl (by kernel_rfl) (by kernel_rfl) (by kernel_rfl) (fun _ _ _ h => h) (Or.inl ⟨by kernel_rfl, ?hy7⟩) (by assumption) ?_
      case hy7 => (intro w9 hS9; (try dsimp only at hS9); go_simp; (try with_reducible rfl))
      try simp only [Act.put, List.setIfInBounds_toArray, List.set_cons_zero, List.set_cons_succ]
      refine wpAnyH_take (i := 7) (v := ?v8) rfl (by kernel_rfl) (by kernel_rfl) (by kernel_rfl) (fun _ _ _ h => h) (Or.inl ⟨by kernel_rfl, ?hy8⟩) (by assumption) ?_
      case hy8 => (intro w9 hS9; (try dsimp only at hS9); go_simp; (try with_reducible rfl))
      try simp only [Act.put, List.setIfInBounds_toArray, List.set_cons_zero, List.set_cons_succ]
      refine wpAnyH_take (i := 8) (v := ?v9) rfl (by kernel_rfl) (by kernel_rfl) (by kernel_rfl) (fun _ _ _ h => h) (Or.inl ⟨by kernel_rfl, ?hy9⟩) (by assumption) ?_
      case hy9 => (intro w9 hS9; (try dsimp only at hS9); go_simp; (try with_reducible rfl))
      try simp only [Act.put, List.setIfInBounds_toArray, List.set_cons_zero, List.set_cons_succ]
      refine wpAnyH_take (i := 10) (v := ?v10) rfl (by kernel_rfl) (by kernel_rfl) (by kernel_rfl) (fun _ _ _ h => h) (Or.inl ⟨by kernel_rfl, ?hy10⟩) (by assumption) ?_
      case hy10 => (intro w9 hS9; (try dsimp only at hS9); go_simp; (try with_reducible rfl))
      try simp only [Act.put, List.setIfInBounds_toArray, List.set_cons_zero, List.set_cons_succ]
      refine wpAnyH_take (i := 11) (v := ?v11) rfl (by kernel_rfl) (by kernel_rfl) (by kernel_rfl) (fun _ _ _ h => h) (Or.inl ⟨by kernel_rfl, ?hy11⟩) (by assumption) ?_
      case hy11 => (intro w9 hS9; (try dsimp only at hS9); go_simp; (try with_reducible rfl))
      try simp only [Act.put, List.setIfInBounds_toArray, List.set_cons_zero, List.set_cons_succ]
      refine wpAnyH_take (i := 12) (v := ?v12) rfl (by kernel_rfl) (by kernel_rfl) (by kernel_rfl) (fun _ _ _ h => h) (Or.inl ⟨by kernel_rfl, ?hy12⟩) (by assumption) ?_
      case hy12 => (intro w9 hS9; (try dsimp only at hS9); go_simp; (try with_reducible rfl))
      try simp only [Act.put, List.setIfInBounds_toArray, List.set_cons_zero, List.set_cons_succ]
      refine wpAnyH_ready (rs := [9, 15]) (by kernel_rfl) (by simp) ?_
      refine AllReadyH.cons rfl (fun K9 hK9 => ?_) (AllReadyH.cons rfl (fun K9 hK9 => ?_) (AllReadyH.nil))
      · rw [if_pos (by rfl)]
        go_wp2_with (go_at_call 76; refine (place_any _ _ (byte_range _).1 (byte_range _).2).mono ?_; rintro e w2 ⟨rfl, rfl⟩; rw [hpl])
        refine hK9.out _ _ (hHeld) (fun hHeld2 => ?_)
        clear hK9 K9
        try simp only [Act.put, List.setIfInBounds_toArray, List.set_cons_zero, List.set_cons_succ]
        refine wpAnyH_take (i := 13) (v := ?v13) rfl (by kernel_rfl) (by kernel_rfl) (by kernel_rfl) (fun _ _ _ h => h) (Or.inl ⟨by kernel_rfl, ?hy13⟩) (by assumption) ?_
        case hy13 => (intro w9 hS9; (try dsimp only at hS9); go_simp; (try with_reducible rfl))
        try simp only [Act.put, List.setIfInBounds_toArray, List.set_cons_zero, List.set_cons_succ]
        refine wpAnyH_take (i := 14) (v := ?v14) rfl (by kernel_rfl) (by kernel_rfl) (by kernel_rfl) (fun _ _ _ h => h) (Or.inl ⟨by kernel_rfl, ?hy14⟩) (by assumption) ?_
        case hy14 => (intro w9 hS9; (try dsimp only at hS9); go_simp; (try with_reducible rfl))
        try simp only [Act.put, List.setIfInBounds_toArray, List.set_cons_zero, List.set_cons_succ]
        refine wpAnyH_ready (rs := [15]) (by kernel_rfl) (by simp) ?_
        refine AllReadyH.cons rfl (fun K9 hK9 => ?_) AllReadyH.nil
        rw [if_pos (by rfl)]
        go_simp
        refine hK9.out _ _ (cell_alloc _ hHeld2) (fun hHeld3 => ?_)
        clear hK9 K9
        try simp only [Act.put, List.setIfInBounds_toArray, List.set_cons_zero, List.set_cons_succ]
        refine wpAnyH_ready (rs := [16]) (by kernel_rfl) (by simp) ?_
        refine AllReadyH.cons rfl (fun K9 hK9 => ?_) AllReadyH.nil
        rw [if_pos (by rfl)]
        go_simp
        refine hK9.out _ _ (cell_alloc (w := w.drew) _ hHeld) (fun hHeld4 => ?_)
        clear hK9 K9
        try simp only [Act.put, List.setIfInBounds_toArray, List.set_cons_zero, List.set_cons_succ]
        refine wpAnyH_done (by kernel_rfl) ?_ _
        go_wp2_with fail
        go_meet
        exact ⟨rfl, rfl⟩
      · rw [if_pos (by rfl)]
        go_simp
        refine hK9.out _ _ (cell_alloc _ hHeld) (fun hHeld2 => ?_)
        clear hK9 K9
        try simp only [Act.put, List.setIfInBounds_toArray, List.set_cons_zero, List.set_cons_succ]
        refine wpAnyH_ready (rs := [9]) (by kernel_rfl) (by simp) ?_
        refine AllReadyH.cons rfl (fun K9 hK9 => ?_) AllReadyH.nil
        rw [if_pos (by rfl)]
        go_wp2_with (go_at_call 76; refine (place_any _ _ (byte_range _).1 (byte_range _).2).mono ?_; rintro e w2 ⟨rfl, rfl⟩; rw [hpl])
        refine hK9.out _ _ (hHeld2) (fun hHeld3 => ?_)
        clear hK9 K9
        try simp only [Act.put, List.setIfInBounds_toArray, List.set_cons_zero, List.set_cons_succ]
        refine wpAnyH_take (i := 13) (v := ?v15) rfl (by kernel_rfl) (by kernel_rfl) (by kernel_rfl) (fun _ _ _ h => h) (Or.inl ⟨by kernel_rfl, ?hy15⟩) (by assumption) ?_
        case hy15 => (intro w9 hS9; (try dsimp only at hS9); go_simp; (try with_reducible rfl))
        try simp only [Act.put, List.setIfInBounds_toArray, List.set_cons_zero, List.set_cons_succ]
        refine wpAnyH_take (i := 14) (v := ?v16) rfl (by kernel_rfl) (by kernel_rfl) (by kernel_rfl) (fun _ _ _ h => h) (Or.inl ⟨by kernel_rfl, ?hy16⟩) (by assumption) ?_
        case hy16 => (intro w9 hS9; (try dsimp only at hS9); go_simp; (try with_reducible rfl))
        try simp only [Act.put, List.setIfInBounds_toArray, List.set_cons_zero, List.set_cons_succ]
        refine wpAnyH_ready (rs := [16]) (by kernel_rfl) (by simp) ?_
        refine AllReadyH.cons rfl (fun K9 hK9 => ?_) AllReadyH.nil
        rw [if_pos (by rfl)]
        go_simp
        refine hK9.out _ _ (cell_alloc (w := w.drew) _ hHeld) (fun hHeld4 => ?_)
        clear hK9 K9
        try simp only [Act.put, List.setIfInBounds_toArray, List.set_cons_zero, List.set_cons_succ]
        refine wpAnyH_done (by kernel_rfl) ?_ _
        go_wp2_with fail
        go_meet
        exact ⟨rfl, rfl⟩
    case rest =>
      obtain ⟨rfl, rfl⟩ := hcut
      have hbA : Below w.heap.size w ((w.alloc (.cells #[.int .i64 0, .int .u8 (cc.toNat : Int), .int .i64 (p : Int), .int .u8 (s[i].toNat : Int)] 82)).drew) := ((Below.refl _ _).alloc (Nat.le_refl _) _).drew
      have HW0 := Lib.hid (HW.out.below hbA)
      have HF0 := Lib.hid (Fr.of_below (yb := yb) (bg := bg) (cb := cb) (yv := yv) hbA)
      have hl1 : bs.take i = bs.take i := rfl
      obtain ⟨P1, hP1⟩ : ∃ P1, P1 = (if f 0 = 0 then [] else (waysC (upd f 0 (f 0 - 1)) (s.data.toList.drop (i + 1))).map fun x => mkS (bs.take i ++ cc :: x)) := ⟨_, rfl⟩
      obtain ⟨P2, hP2⟩ : ∃ P2, P2 = (if f p = 0 then [] else (waysC (upd f p (f p - 1)) (s.data.toList.drop (i + 1))).map fun x => mkS (bs.take i ++ s[i] :: x)) := ⟨_, rfl⟩
      have hdl : (s.data.toList.drop (i + 1)).length = m := by rw [List.length_drop, Array.length_toList]; have := Him.out; show s.size - (i + 1) = m; omega
      have HPl := Lib.hid (show P1.length ≤ 2 ^ m by
        rw [hP1]
        split
        · simp
        · rw [List.length_map, ← hdl]; exact waysC_len _ _)
      have HP1 := Lib.hid hP1
      have HP2 := Lib.hid hP2
      clear hbA hl1 hP1 hP2 hdl hw1 hw2 c1 z1 hq HW
      go_wp2
      go_loopw [35] (fun i0 wr => ∃ j : Nat, j ≤ 2 ∧ i0 = .int .i64 (j : Int) ∧ ∃ bs2 yv2, WayS wr B wb yb bf bg cb kb cap s f yv2 (l ++ wayJ P1 P2 j) bs2 ∧ bs2.take i = bs.take i ∧ Fr w wr yb bg cb yv yv2) (fun i0 _ => 2 - (intOf i0).toNat)
      case atStart => exact ⟨0, by omega, rfl, bs, yv, by simpa [wayJ] using HW0.out, rfl, HF0.out⟩
      case round =>
        clear HW0 HF0
        obtain ⟨j, hj, rfl, bs2, yv2, hWr, htk, hFr⟩ := hrel
        have HWr := Lib.hid hWr
        have Htk := Lib.hid htk
        have HFr := Lib.hid hFr
        clear hWr htk hFr
        have hj3 : j = 0 ∨ j = 1 ∨ j = 2 := by omega
        have hix0 := ix0 (.int .i64 0) (.int .u8 (cc.toNat : Int)) (.int .i64 (p : Int)) (.int .u8 (s[i].toNat : Int)) wr
        have hix1 := ix1 (.int .i64 0) (.int .u8 (cc.toNat : Int)) (.int .i64 (p : Int)) (.int .u8 (s[i].toNat : Int)) wr
        rcases hj3 with rfl | rfl | rfl
        · have hbA : Below wr.heap.size wr (wr.alloc (.cells #[.int .i64 0, .int .u8 (cc.toNat : Int)] 80)) := (Below.refl _ _).alloc (Nat.le_refl _) _
          have HW1 := Lib.hid (HWr.out.below hbA)
          have HF1 := Lib.hid (HFr.out.trans (Fr.of_below hbA))
          have HbA := Lib.hid hbA
          obtain ⟨hf1, hf2⟩ := Hf.out 0
          have hcellp : (wr.alloc (.cells #[.int .i64 0, .int .u8 (cc.toNat : Int)] 80)).cell? ⟨cb, 0, none⟩ = some (.int .i64 (f 0)) := by rw [cell_of_row _ _ 0 _ _ _ HW1.out.cnt, cs_get _ 0 (by omega)]
          have hfrp : (wr.alloc (.cells #[.int .i64 0, .int .u8 (cc.toNat : Int)] 80)).frozen? ⟨cb, 0, none⟩ = false := frozen_of_row _ _ 0 _ _ HW1.out.cnt
          clear hbA
          by_cases hz : f 0 = 0
          · have hzq : (f 0 == 0) = true := by rw [hz]; rfl
            have Hz := Lib.hid hz
            clear hz
            go_wp2
            go_roundw
            case rel =>
              have e : P1 = [] := by rw [HP1.out]; exact if_pos Hz.out
              exact ⟨1, by omega, rfl, bs2, yv2, by have := HW1.out; simpa [wayJ, e] using this, Htk.out, HF1.out⟩
            case measure => simp [intOf]
          · have hzq : (f 0 == 0) = false := by rw [beq_eq_false_iff_ne]; exact hz
            have Hz := Lib.hid hz
            have HW2 := Lib.hid (HW1.out.count HS.out (p := 0) (by omega) (f 0 - 1))
            have HW3 := Lib.hid (HW2.out.byte HS.out i cc)
            have HF3 := Lib.hid ((HF1.out.trans (Fr.set cb 0 (.int .i64 (f 0 - 1)) (.inr (.inr rfl)))).trans (Fr.set bg i (.int .u8 (cc.toNat : Int)) (.inr (.inl rfl))))
            have hlen2 : bs2.length = s.size := HW1.out.len
            have hib : i < bs2.length := by omega
            obtain ⟨d3, y3⟩ := src_cell (i := 0) (v := .slice (some ⟨bg, 0, none⟩) bs2.length cap) HW2.out.buf rfl
            have d4 : ∃ x0, ((wr.alloc (.cells #[.int .i64 0, .int .u8 (cc.toNat : Int)] 80)).setCell ⟨cb, 0, none⟩ (.int .i64 (f 0 - 1))).cell? ⟨bg, i, none⟩ = some x0 := ⟨_, HW2.out.bytes.at i _ (List.getElem?_eq_getElem hib)⟩
            obtain ⟨x0, d4⟩ := d4
            have y4 := HW2.out.bytes.free i hib
            obtain ⟨d5, y5⟩ := src_cell (i := 0) (v := wayF wb yb bf cb kb) HW3.out.walk rfl
            unfold wayF at d5
            have hibI : (i : Int) < (bs2.length : Int) := by omega
            have n1 := HS.out.de; have n2 := HS.out.ce; have n3 := HS.out.cd
            have hlw : ∀ k, (k = yb ∨ k = bg ∨ k = cb) → k ≠ wr.heap.size := fun k hk => by
              have h1 := lt_of_heap HWr.out.ways; have h2 := HWr.out.bytes.lt; have h3 := lt_of_heap HWr.out.cnt
              omega
            have hlc : cb ≠ wr.heap.size := hlw cb (by simp)
            have hlg : bg ≠ wr.heap.size := hlw bg (by simp)
            have hx0 := cell_newi wr #[.int .i64 0, .int .u8 (cc.toNat : Int)] 80 0 (.int .i64 0) rfl
            have hx1 := cell_newi wr #[.int .i64 0, .int .u8 (cc.toNat : Int)] 80 1 (.int .u8 (cc.toNat : Int)) rfl
            have hlj : (l ++ wayJ P1 P2 0).length + 2 ^ m ≤ 8192 := by have := Hln.out; have := HPl.out; rw [Nat.pow_succ] at *; simp [wayJ]; omega
            clear hz
            go_wp2_with fail
            refine (Ih.out (i + 1) _ (upd f 0 (f 0 - 1)) yv2 (l ++ wayJ P1 P2 0) (bs2.set i cc) _ (by have := Him.out; omega) (by omega) (fun q => by have h1 := Hf.out q; have h2 := Hf.out 0; have h3 := Hz.out; unfold upd; split <;> omega) hlj HW3.out).mono ?_
            rintro e w4 ⟨rfl, bs3, yv3, hW4, htk4, hFr4⟩
            have HW4 := Lib.hid hW4
            have HF4 := Lib.hid (HF3.out.trans hFr4)
            have Htk4 := Lib.hid htk4
            have hby : ∀ k, yv2.ownBlock = some k → k < wr.heap.size := fun k hk => (World.ownsRow.lt HWr.out.own k hk).2
            have hx4 : w4.heap[wr.heap.size]? = (wr.alloc (.cells #[.int .i64 0, .int .u8 (cc.toNat : Int)] 80)).heap[wr.heap.size]? := (hFr4.block _ (by simp [World.setCell]) (fun e => hlw yb (by simp) e.symm) (fun e => hlg e.symm) (fun e => hlc e.symm) (fun e => by have := hby _ e; omega)).trans ((Below.heap_setCell _ _ _ _ (by exact fun e => hlg e.symm)).trans (Below.heap_setCell _ _ _ _ (by exact fun e => hlc e.symm)))
            obtain ⟨k0, _⟩ := src_cell (i := 0) (v := .int .i64 0) (hx4.trans (heap_alloc_new wr _)) rfl
            have hcell4 : w4.cell? ⟨cb, 0, none⟩ = some (.int .i64 (f 0 - 1)) := by rw [cell_of_row _ _ 0 _ _ _ HW4.out.cnt, cs_get _ 0 (by omega)]; simp [upd]
            have hfr4 : w4.frozen? ⟨cb, 0, none⟩ = false := frozen_of_row _ _ 0 _ _ HW4.out.cnt
            clear hW4 hFr4 htk4 hx4 hby HW3 HW2 HF3 d3 d4 d5 hcellp hfrp hx0 hx1 y3 y4 y5 hzq
            go_wp2
            have hback : WayS (w4.setCell ⟨cb, 0, none⟩ (.int .i64 (f 0))) B wb yb bf bg cb kb cap s f yv3 (l ++ wayJ P1 P2 1) bs3 := by
              have h1 := HW4.out.count HS.out (p := 0) (by omega) (f 0)
              rw [upd_back] at h1
              have e1 : (bs2.set i cc).take (i + 1) = bs.take i ++ [cc] := by rw [take_set_at _ hib, Htk.out]
              rw [e1, List.append_assoc] at h1
              have e2 : P1 = (waysC (upd f 0 (f 0 - 1)) (s.data.toList.drop (i + 1))).map fun x => mkS (bs.take i ++ [cc] ++ x) := by rw [HP1.out, if_neg Hz.out]; simp
              rw [← e2] at h1
              simpa [wayJ] using h1
            have htk5 : bs3.take i = bs.take i := by
              have h1 := congrArg (List.take i) Htk4.out
              rw [List.take_take, List.take_take, Nat.min_eq_left (Nat.le_succ i), take_set_lo, Htk.out] at h1
              exact h1
            have hF5 := HF4.out.trans (Fr.set cb 0 (.int .i64 (f 0)) (.inr (.inr rfl)))
            have HK := Lib.hid hback
            have HT := Lib.hid htk5
            have HF5 := Lib.hid hF5
            clear hback htk5 hF5
            go_roundw
            case rel => exact ⟨1, by omega, rfl, bs3, yv3, HK.out, HT.out, HF5.out⟩
            case measure => simp [intOf]
        · have hbA : Below wr.heap.size wr (wr.alloc (.cells #[.int .i64 (p : Int), .int .u8 (s[i].toNat : Int)] 80)) := (Below.refl _ _).alloc (Nat.le_refl _) _
          have HW1 := Lib.hid (HWr.out.below hbA)
          have HF1 := Lib.hid (HFr.out.trans (Fr.of_below hbA))
          have HbA := Lib.hid hbA
          obtain ⟨hf1, hf2⟩ := Hf.out p
          have hcellp : (wr.alloc (.cells #[.int .i64 (p : Int), .int .u8 (s[i].toNat : Int)] 80)).cell? ⟨cb, p, none⟩ = some (.int .i64 (f p)) := by rw [cell_of_row _ _ p _ _ _ HW1.out.cnt, cs_get _ p hp27]
          have hfrp : (wr.alloc (.cells #[.int .i64 (p : Int), .int .u8 (s[i].toNat : Int)] 80)).frozen? ⟨cb, p, none⟩ = false := frozen_of_row _ _ p _ _ HW1.out.cnt
          clear hbA
          by_cases hz : f p = 0
          · have hzq : (f p == 0) = true := by rw [hz]; rfl
            have Hz := Lib.hid hz
            clear hz
            go_wp2
            go_roundw
            case rel =>
              have e : P2 = [] := by rw [HP2.out]; exact if_pos Hz.out
              exact ⟨2, by omega, rfl, bs2, yv2, by have := HW1.out; simpa [wayJ, e] using this, Htk.out, HF1.out⟩
            case measure => simp [intOf]
          · have hzq : (f p == 0) = false := by rw [beq_eq_false_iff_ne]; exact hz
            have Hz := Lib.hid hz
            have HW2 := Lib.hid (HW1.out.count HS.out (p := p) hp27 (f p - 1))
            have HW3 := Lib.hid (HW2.out.byte HS.out i s[i])
            have HF3 := Lib.hid ((HF1.out.trans (Fr.set cb p (.int .i64 (f p - 1)) (.inr (.inr rfl)))).trans (Fr.set bg i (.int .u8 (s[i].toNat : Int)) (.inr (.inl rfl))))
            have hlen2 : bs2.length = s.size := HW1.out.len
            have hib : i < bs2.length := by omega
            obtain ⟨d3, y3⟩ := src_cell (i := 0) (v := .slice (some ⟨bg, 0, none⟩) bs2.length cap) HW2.out.buf rfl
            have d4 : ∃ x0, ((wr.alloc (.cells #[.int .i64 (p : Int), .int .u8 (s[i].toNat : Int)] 80)).setCell ⟨cb, p, none⟩ (.int .i64 (f p - 1))).cell? ⟨bg, i, none⟩ = some x0 := ⟨_, HW2.out.bytes.at i _ (List.getElem?_eq_getElem hib)⟩
            obtain ⟨x0, d4⟩ := d4
            have y4 := HW2.out.bytes.free i hib
            obtain ⟨d5, y5⟩ := src_cell (i := 0) (v := wayF wb yb bf cb kb) HW3.out.walk rfl
            unfold wayF at d5
            have hibI : (i : Int) < (bs2.length : Int) := by omega
            have n1 := HS.out.de; have n2 := HS.out.ce; have n3 := HS.out.cd
            have hlw : ∀ k, (k = yb ∨ k = bg ∨ k = cb) → k ≠ wr.heap.size := fun k hk => by
              have h1 := lt_of_heap HWr.out.ways; have h2 := HWr.out.bytes.lt; have h3 := lt_of_heap HWr.out.cnt
              omega
            have hlc : cb ≠ wr.heap.size := hlw cb (by simp)
            have hlg : bg ≠ wr.heap.size := hlw bg (by simp)
            have hx0 := cell_newi wr #[.int .i64 (p : Int), .int .u8 (s[i].toNat : Int)] 80 0 (.int .i64 (p : Int)) rfl
            have hx1 := cell_newi wr #[.int .i64 (p : Int), .int .u8 (s[i].toNat : Int)] 80 1 (.int .u8 (s[i].toNat : Int)) rfl
            have hlj : (l ++ wayJ P1 P2 1).length + 2 ^ m ≤ 8192 := by have := Hln.out; have := HPl.out; rw [Nat.pow_succ] at *; simp [wayJ]; omega
            clear hz
            go_wp2_with fail
            refine (Ih.out (i + 1) _ (upd f p (f p - 1)) yv2 (l ++ wayJ P1 P2 1) (bs2.set i s[i]) _ (by have := Him.out; omega) (by omega) (fun q => by have h1 := Hf.out q; have h2 := Hf.out p; have h3 := Hz.out; unfold upd; split <;> omega) hlj HW3.out).mono ?_
            rintro e w4 ⟨rfl, bs3, yv3, hW4, htk4, hFr4⟩
            have HW4 := Lib.hid hW4
            have HF4 := Lib.hid (HF3.out.trans hFr4)
            have Htk4 := Lib.hid htk4
            have hby : ∀ k, yv2.ownBlock = some k → k < wr.heap.size := fun k hk => (World.ownsRow.lt HWr.out.own k hk).2
            have hx4 : w4.heap[wr.heap.size]? = (wr.alloc (.cells #[.int .i64 (p : Int), .int .u8 (s[i].toNat : Int)] 80)).heap[wr.heap.size]? := (hFr4.block _ (by simp [World.setCell]) (fun e => hlw yb (by simp) e.symm) (fun e => hlg e.symm) (fun e => hlc e.symm) (fun e => by have := hby _ e; omega)).trans ((Below.heap_setCell _ _ _ _ (by exact fun e => hlg e.symm)).trans (Below.heap_setCell _ _ _ _ (by exact fun e => hlc e.symm)))
            obtain ⟨k0, _⟩ := src_cell (i := 0) (v := .int .i64 (p : Int)) (hx4.trans (heap_alloc_new wr _)) rfl
            have hcell4 : w4.cell? ⟨cb, p, none⟩ = some (.int .i64 (f p - 1)) := by rw [cell_of_row _ _ p _ _ _ HW4.out.cnt, cs_get _ p hp27]; simp [upd]
            have hfr4 : w4.frozen? ⟨cb, p, none⟩ = false := frozen_of_row _ _ p _ _ HW4.out.cnt
            clear hW4 hFr4 htk4 hx4 hby HW3 HW2 HF3 d3 d4 d5 hcellp hfrp hx0 hx1 y3 y4 y5 hzq
            go_wp2
            have hback : WayS (w4.setCell ⟨cb, p, none⟩ (.int .i64 (f p))) B wb yb bf bg cb kb cap s f yv3 (l ++ wayJ P1 P2 2) bs3 := by
              have h1 := HW4.out.count HS.out (p := p) hp27 (f p)
              rw [upd_back] at h1
              have e1 : (bs2.set i s[i]).take (i + 1) = bs.take i ++ [s[i]] := by rw [take_set_at _ hib, Htk.out]
              rw [e1, List.append_assoc] at h1
              have e2 : P2 = (waysC (upd f p (f p - 1)) (s.data.toList.drop (i + 1))).map fun x => mkS (bs.take i ++ [s[i]] ++ x) := by rw [HP2.out, if_neg Hz.out]; simp
              rw [← e2] at h1
              simpa [wayJ] using h1
            have htk5 : bs3.take i = bs.take i := by
              have h1 := congrArg (List.take i) Htk4.out
              rw [List.take_take, List.take_take, Nat.min_eq_left (Nat.le_succ i), take_set_lo, Htk.out] at h1
              exact h1
            have hF5 := HF4.out.trans (Fr.set cb p (.int .i64 (f p)) (.inr (.inr rfl)))
            have HK := Lib.hid hback
            have HT := Lib.hid htk5
            have HF5 := Lib.hid hF5
            clear hback htk5 hF5
            go_roundw
            case rel => exact ⟨2, by omega, rfl, bs3, yv3, HK.out, HT.out, HF5.out⟩
            case measure => simp [intOf]
        · go_wp2
          go_end0
          refine ⟨rfl, bs2, yv2, ?_, Htk.out, HFr.out⟩
          have hd : s.data.toList.drop i = s[i] :: s.data.toList.drop (i + 1) := drop_cons_ba s i hlt
          have e : (waysC f (s.data.toList.drop i)).map (fun x => mkS (bs.take i ++ x)) = wayJ P1 P2 2 := by
            rw [hd, waysC, List.map_append, hpl, Int.toNat_natCast, ← Hcc.out]
            show _ = P1 ++ P2
            rw [HP1.out, HP2.out]
            congr 1 <;> split <;> simp [Function.comp_def]
          rw [e]
          exact HWr.out
end Go.Proofs.Ythpjinfkagllfaa
