/- Several texts of this proof, joined: each is headed by its own sentence. Their conditions stand there. -/
import Derived.Test.YtndfhmphlomeiaaGreatDoorProg
import Derived.WalkKit
import Derived.WalkSpells
import Derived.WalkLawsBesides
import Derived.Lib.Hide
import Derived.Test.YtndfhmphlomeiaaGreatDoorRows
import Derived.ProofKit
import Derived.OpenShut
import Derived.ShutString
import Derived.HandedShaped
import Derived.LaidMore
import Derived.Lay
import Derived.SevenTiedAt
import Derived.Stop.Joined
import Derived.Shelf.Vars
import Derived.BigQuiet
import Derived.Deep.QuietTactic
import Derived.Deep.RegionHeld3
import Derived.Lib.UnsafeStr
import Derived.SliceStrings
import Derived.Deep.OwnRows
import Derived.Laws.OwnMore
import Derived.Lib.SmallJoins
import Derived.Deep.Fields
import Init
import Derived.Lib.Bytealg
import Derived.Lib.Strings
import Derived.Lib.Replace
import Derived.Lib.CountLaws
import Derived.Lib.IndexBytes
import Derived.Test.YtndfhmphlomeiaaGreatDoorSh
import Derived.Lib.Split
import Derived.Lib.SplitLaws
import Derived.Laws.ResultCell
import Derived.Laws.Rows
import Derived.Laws.MakeOwn
import Derived.Maps.AppendAt
import Derived.Laws.Shifts
import Derived.Laws.Bits64b
/- Words and small lemmas on worlds, slices and strings that the walks of this seat use. No condition. -/
namespace Go.Proofs.YtndfhmphlomeiaaGreatDoor
open Go.RowKit
theorem ret_bool {a b : Bool} (h : a = b) : Ending.returned (.bool a) = .returned (.bool b) := by rw [h]
theorem ret_str {a b : ByteArray} (h : a = b) : Ending.returned (.string a) = .returned (.string b) := by rw [h]
theorem ret_int {k : IntKind} {a b : Int} (h : a = b) : Ending.returned (.int k a) = .returned (.int k b) := by rw [h]
/-- A slice value that reads as cells, wherever they lie. -/
def SlR (w : World) (sz : Nat) (v : Value) (n : Nat) (xs : List Value) : Prop :=
  xs.length = n * sz ∧ ∃ a c, v = .slice a n c ∧ n ≤ c ∧ c ≤ maxLen ∧ ∀ j u, xs[j]? = some u → ∃ b off, a = some ⟨b, off, none⟩ ∧ w.cell? ⟨b, off + j, none⟩ = some u
/-- A slice value whose cells lie in one block of number at least lo and below hi, none of them frozen. -/
def SlW (w : World) (lo hi : Nat) (e : TypeId) (sz : Nat) (v : Value) (n : Nat) (xs : List Value) : Prop :=
  xs.length = n * sz ∧ ∃ a c, v = .slice a n c ∧ n ≤ c ∧ c ≤ maxLen ∧
    (n = 0 ∨ ∃ g off cur, a = some ⟨g, off, none⟩ ∧ lo ≤ g ∧ g < hi ∧ w.heap[g]? = some (.cells cur e (0, 0)) ∧ off + n * sz ≤ cur.size ∧ (cur.toList.drop off).take (n * sz) = xs)
/-- Blocks outside of [lo, hi) that were there are as they were. -/
structure Kept (lo hi : Nat) (w w' : World) : Prop where
  os : w'.os = w.os
  tape : w'.tape = w.tape
  output : w'.output = w.output
  size : w.heap.size ≤ w'.heap.size
  block : ∀ k, k < w.heap.size → (k < lo ∨ hi ≤ k) → w'.heap[k]? = w.heap[k]?
theorem Kept.refl (lo hi : Nat) (w : World) : Kept lo hi w w := ⟨rfl, rfl, rfl, Nat.le_refl _, fun _ _ _ => rfl⟩
theorem Kept.trans {lo hi : Nat} {a b c : World} (h : Kept lo hi a b) (k : Kept lo hi b c) : Kept lo hi a c :=
  ⟨k.os.trans h.os, k.tape.trans h.tape, k.output.trans h.output, Nat.le_trans h.size k.size, fun i hi ho => (k.block i (Nat.lt_of_lt_of_le hi h.size) ho).trans (h.block i hi ho)⟩
theorem Kept.of_below {lo hi : Nat} {w w' : World} (h : Below w.heap.size w w') : Kept lo hi w w' := ⟨h.os, h.tape, h.output, h.size, fun k hk _ => h.block k hk⟩
theorem Kept.mono {lo hi lo' hi' : Nat} {w w' : World} (h : Kept lo hi w w') (h1 : lo' ≤ lo) (h2 : hi ≤ hi') : Kept lo' hi' w w' :=
  ⟨h.os, h.tape, h.output, h.size, fun k hk ho => h.block k hk (by omega)⟩
theorem Kept.below {lo hi B : Nat} {w w' : World} (h : Kept lo hi w w') (h1 : B ≤ lo) (h2 : B ≤ w.heap.size) : Below B w w' :=
  ⟨h.os, h.tape, h.output, h.size, fun k hk => h.block k (by omega) (by omega)⟩
theorem SlR.len {w sz v n xs} (h : SlR w sz v n xs) : xs.length = n * sz := h.1
theorem SlW.len {w lo hi e sz v n xs} (h : SlW w lo hi e sz v n xs) : xs.length = n * sz := h.1
theorem SlR.below {w w' : World} {sz v n xs} (h : SlR w sz v n xs) (hb : Below w.heap.size w w') : SlR w' sz v n xs := by
  obtain ⟨h1, a, c, rfl, h2, h3, h4⟩ := h
  refine ⟨h1, a, c, rfl, h2, h3, fun j u hj => ?_⟩
  obtain ⟨b, off, rfl, hc⟩ := h4 j u hj
  refine ⟨b, off, rfl, ?_⟩
  rw [hb.cell (p := ⟨b, off + j, none⟩) ?_]
  · exact hc
  · show b < w.heap.size
    by_cases hlt : b < w.heap.size
    · exact hlt
    · simp [World.cell?, Array.getElem?_eq_none (Nat.le_of_not_lt hlt)] at hc
theorem SlW.kept {w w' : World} {lo hi lo' hi' e sz v n xs} (h : SlW w lo hi e sz v n xs) (hb : Kept lo' hi' w w') (hd : hi ≤ lo' ∨ hi' ≤ lo) : SlW w' lo hi e sz v n xs := by
  obtain ⟨h1, a, c, rfl, h2, h3, h4⟩ := h
  refine ⟨h1, a, c, rfl, h2, h3, ?_⟩
  rcases h4 with h4 | ⟨g, off, cur, rfl, hg, hg2, hh, hs, ht⟩
  · exact .inl h4
  · exact .inr ⟨g, off, cur, rfl, hg, hg2, by rw [hb.block g (Array.getElem?_eq_some_iff.1 hh).1 (by omega)]; exact hh, hs, ht⟩
theorem SlW.below {w w' : World} {lo hi e sz v n xs} (h : SlW w lo hi e sz v n xs) (hb : Below w.heap.size w w') : SlW w' lo hi e sz v n xs :=
  h.kept (Kept.of_below (lo := hi) (hi := hi) hb) (.inl (Nat.le_refl _))
theorem SlW.mono {w : World} {lo hi lo' hi' e sz v n xs} (h : SlW w lo hi e sz v n xs) (hl : lo' ≤ lo) (hh : hi ≤ hi') : SlW w lo' hi' e sz v n xs := by
  obtain ⟨h1, a, c, rfl, h2, h3, h4⟩ := h
  refine ⟨h1, a, c, rfl, h2, h3, ?_⟩
  rcases h4 with h4 | ⟨g, off, cur, rfl, hg, hg2, hh, hs, ht⟩
  · exact .inl h4
  · exact .inr ⟨g, off, cur, rfl, by omega, by omega, hh, hs, ht⟩
theorem SlW.get {cur : Array Value} {off m j : Nat} {xs : List Value} (ht : (cur.toList.drop off).take m = xs) (hj : j < m) : cur[off + j]? = xs[j]? := by
  rw [← ht, List.getElem?_take, if_pos hj, List.getElem?_drop]; simp
theorem SlW.read {w : World} {lo hi e sz v n xs} (h : SlW w lo hi e sz v n xs) : SlR w sz v n xs := by
  obtain ⟨h1, a, c, rfl, h2, h3, h4⟩ := h
  refine ⟨h1, a, c, rfl, h2, h3, ?_⟩
  intro j u hj
  have hjl := (List.getElem?_eq_some_iff.1 hj).1
  rcases h4 with rfl | ⟨g, off, cur, rfl, hg, hg2, hh, hs, ht⟩
  · simp at h1; simp [h1] at hjl
  · refine ⟨g, off, rfl, ?_⟩
    have : cur[off + j]? = some u := by rw [SlW.get ht (by omega), hj]
    simp [World.cell?, hh, this]
/-- What the walk wants at a store into cell j: where it is, what is there, that it is not frozen, and what is owned behind the store. -/
theorem SlW.store {w : World} {lo hi e sz v n xs} (h : SlW w lo hi e sz v n xs) {j : Nat} (hj : j < n * sz) : ∃ a c, v = .slice a n c ∧ n ≤ c ∧ c ≤ maxLen ∧
    ∃ g off, a = some ⟨g, off, none⟩ ∧ lo ≤ g ∧ g < hi ∧ g < w.heap.size ∧ w.cell? ⟨g, off + j, none⟩ = xs[j]? ∧ w.frozen? ⟨g, off + j, none⟩ = false ∧
    ∀ u, SlW (w.setCell ⟨g, off + j, none⟩ u) lo hi e sz v n (xs.set j u) := by
  obtain ⟨h1, a, c, rfl, h2, h3, h4⟩ := h
  refine ⟨a, c, rfl, h2, h3, ?_⟩
  rcases h4 with rfl | ⟨g, off, cur, rfl, hg, hg2, hh, hs, ht⟩
  · simp at hj
  · refine ⟨g, off, rfl, hg, hg2, (Array.getElem?_eq_some_iff.1 hh).1, ?_, ?_, ?_⟩
    · simp [World.cell?, hh, SlW.get ht hj]
    · simp [World.frozen?, hh]
    · intro u
      refine ⟨by simp [h1], _, c, rfl, h2, h3, .inr ⟨g, off, cur.setIfInBounds (off + j) u, rfl, hg, hg2, ?_, by simpa using hs, ?_⟩⟩
      · simp [World.setCell, Array.getElem?_modify, hh]
      · apply List.ext_getElem?
        intro i
        have hx := h1
        rw [← ht]
        simp only [List.getElem?_take, List.getElem?_drop, List.getElem?_set, Array.getElem?_toList, Array.getElem?_setIfInBounds, List.length_take, List.length_drop, Array.length_toList]
        by_cases hij : i = j
        · subst hij
          rw [if_pos hj, if_pos rfl, if_pos rfl, if_pos (by omega), if_pos (by omega)]
        · rw [if_neg (show ¬ off + j = off + i by omega), if_neg (Ne.symm hij)]
theorem kept_setCell {w : World} {lo hi g o : Nat} (h1 : lo ≤ g) (h2 : g < hi) (u : Value) : Kept lo hi w (w.setCell ⟨g, o, none⟩ u) :=
  ⟨rfl, rfl, rfl, by simp [World.setCell], fun k _ hk => Below.heap_setCell _ _ _ _ (by show k ≠ g; omega)⟩
/-- A []string. -/
def Strs (w : World) (v : Value) (l : List ByteArray) : Prop := SlR w 1 v l.length (l.map Value.string) ∧ ∀ s ∈ l, s.size ≤ maxLen
def StrsW (w : World) (lo hi : Nat) (v : Value) (l : List ByteArray) : Prop := SlW w lo hi 9 1 v l.length (l.map Value.string) ∧ ∀ s ∈ l, s.size ≤ maxLen
theorem Strs.below {w w' : World} {v l} (h : Strs w v l) (hb : Below w.heap.size w w') : Strs w' v l := ⟨h.1.below hb, h.2⟩
theorem StrsW.below {w w' : World} {lo hi v l} (h : StrsW w lo hi v l) (hb : Below w.heap.size w w') : StrsW w' lo hi v l := ⟨h.1.below hb, h.2⟩
theorem StrsW.kept {w w' : World} {lo hi lo' hi' v l} (h : StrsW w lo hi v l) (hb : Kept lo' hi' w w') (hd : hi ≤ lo' ∨ hi' ≤ lo) : StrsW w' lo hi v l := ⟨h.1.kept hb hd, h.2⟩
theorem StrsW.read {w : World} {lo hi v l} (h : StrsW w lo hi v l) : Strs w v l := ⟨h.1.read, h.2⟩
theorem StrsW.mono {w : World} {lo hi lo' hi' v l} (h : StrsW w lo hi v l) (hl : lo' ≤ lo) (hh : hi ≤ hi') : StrsW w lo' hi' v l := ⟨h.1.mono hl hh, h.2⟩
/-- The value's shape and its cells. -/
theorem Strs.shape {w : World} {v l} (h : Strs w v l) : ∃ a c, v = .slice a l.length c ∧ l.length ≤ c ∧ c ≤ maxLen ∧
    ∀ j, (hj : j < l.length) → ∃ b off, a = some ⟨b, off, none⟩ ∧ w.cell? ⟨b, off + j, none⟩ = some (.string l[j]) ∧ l[j].size ≤ maxLen := by
  obtain ⟨⟨_, a, c, h1, h2, h3, h4⟩, h5⟩ := h
  refine ⟨a, c, h1, h2, h3, fun j hj => ?_⟩
  obtain ⟨b, off, e, hc⟩ := h4 j (.string l[j]) (by simp [hj])
  exact ⟨b, off, e, hc, h5 _ (List.getElem_mem _)⟩
theorem cell_lt {w : World} {b o : Nat} {v : Value} (h : w.cell? ⟨b, o, none⟩ = some v) : b < w.heap.size := by
  by_cases hlt : b < w.heap.size
  · exact hlt
  · simp [World.cell?, Array.getElem?_eq_none (Nat.le_of_not_lt hlt)] at h
theorem heap3_0 (w : World) (A B C : Obj) : (((w.alloc A).alloc B).alloc C).heap[w.heap.size]? = some A := by
  rw [Below.heap_alloc _ _ _ (by simp; omega)]; exact heap_alloc2_old w A B
theorem heap3_1 (w : World) (A B C : Obj) : (((w.alloc A).alloc B).alloc C).heap[w.heap.size + 1]? = some B := by
  rw [Below.heap_alloc _ _ _ (by simp)]; exact heap_alloc2_new w A B
theorem heap3_2 (w : World) (A B C : Obj) : (((w.alloc A).alloc B).alloc C).heap[w.heap.size + 1 + 1]? = some C := by
  have h := heap_alloc2_new (w.alloc A) B C
  simpa using h
theorem below_drewN {B : Nat} {a w : World} (h : Below B a w) (n : Nat) : Below B a (w.drewN n) := ⟨h.os, h.tape, h.output, h.size, h.block⟩
end Go.Proofs.YtndfhmphlomeiaaGreatDoor
/- The frame of a law's row: a law that returns true and changes nothing that was there has the row's post; how the arguments of these laws are opened. No condition. -/
namespace Go.Proofs.YtndfhmphlomeiaaGreatDoor
open Go.ChangeShapes Go.WideShapes Go.ChangeAt Go.RowKit
open Go.ChangeMaps (open_string shut_string)
theorem Tryz.own : ownKnob Tryz.prog.godebug = none := by kernel_rfl
theorem Tryz.laidOut : laidOutB Tryz.prog = true := by kernel_rfl
theorem trodAll_below {H : Type} {enc : TypeId × Value → H} {P : Program} (hl : laidOutB P = true) {W W' : World} (hb : Below W.heap.size W W') :
    ∀ (ts : List TypeId) (vs : List Value) (ds : List (DataW H)) (ps : List MemPlace), ts.all (fun t => P.readableRec t && decide (t < P.types.size)) = true →
      DataW.TrodAll enc P W 0 (fun _ => true) true ts vs ds ps → (∀ x ∈ ps, x.block < W.heap.size) →
      DataW.TrodAll enc P W' 0 (fun b => decide (b < W.heap.size)) true ts vs ds ps
  | [], vs, ds, ps, _, h, _ => by
    obtain ⟨rfl, rfl, rfl⟩ := trodAll_nil h
    exact trodAll_mk0
  | t :: ts, vs, ds, ps, ht, h, hlt => by
    obtain ⟨v, vs', d, ds', p, q, rfl, rfl, rfl, h1, h2⟩ := trodAll_cons h
    simp only [List.all_cons, Bool.and_eq_true, decide_eq_true_eq] at ht
    exact ⟨p, q, Below.trod hl ht.1.1 ht.1.2 h1 hb (fun x hx => hlt x (List.mem_append.2 (.inl hx))),
      trodAll_below hl hb ts vs' ds' q (by simpa using ht.2) h2 (fun x hx => hlt x (List.mem_append.2 (.inr hx))), rfl⟩
theorem law_post {H : Type} {enc : TypeId × Value → H} {P : Program} {f : Func} {s : ChangeSpec} {tb : TypeId} {W W' : World} {args : Array Value} {ds : List (DataW H)} {ps : List MemPlace}
    (hl : laidOutB P = true) (hp : f.params.toList.all (fun t => P.readableRec t && decide (t < P.types.size)) = true) (ht : f.resultTypes = #[tb]) (hb : P.underlying tb = some .bool)
    (hvs : s.vars = []) (hs : s.fn H (ds ++ []) = { results := [.lit (.bool true)], args := ds })
    (hW : DataW.Whole enc P f.params.toList s.vars false W args.toList ds [] ps) (hbl : Below W.heap.size W W') :
    s.post enc P f false true false false W args (.bool true) W' := by
  have hW' := hW
  obtain ⟨p, q, hA, hV, rfl, hfz, hnd⟩ := hW
  rw [hvs] at hV
  obtain ⟨_, rfl⟩ := trodVars_none hV
  have hA' := trodAll_below hl hbl _ _ _ _ hp hA (fun x hx => hW'.lt x (by simpa using hx))
  refine ⟨ds, [], _, [], p, [], hW', ?_, ?_, ?_, ?_, fun h => by cases h⟩
  · rw [hs, ht]
    show DataW.TrodAll enc P W' _ _ _ [tb] [.bool true] [.lit (.bool true)] []
    exact trodAll_mk1 (shut_bool hb true)
  · rw [hs]; exact hA'
  · rw [hs, hvs]; exact rfl
  · exact hbl.frame _
end Go.Proofs.YtndfhmphlomeiaaGreatDoor
/- The frame of a tied card's law: the wrap with the listed variables and the world's shape both at hand; MaxLen's cell. No condition. -/
namespace Go.Proofs.YtndfhmphlomeiaaGreatDoor
open Go.ChangeShapes Go.WideShapes Go.ChangeAt Go.RowKit
theorem handed_and_shaped {H : Type} {enc : TypeId × Value → H} {a : Assume} {C : Checked} {os : Os} {f : FuncId} {fn : Func} {s : ChangeSpec} {conds : List PathCond} {apart fresh handsOn again : Bool} {X : World → Array Value → Prop}
    (hX : ∀ (w w' : World) (args : Array Value), w.heap = w'.heap → X w args → X w' args)
    (own : ownKnob C.prog.godebug = none) (started : os.Started) (noInit : C.prog.inits.idxOf? f = none) (hfn : C.prog.funcs[f]? = some fn)
    (witness : ∃ (w : World) (tape : Tape) (i : Input), w.os = os ∧ (w.forCall tape i).Shaped C.prog ∧ i.vars = [] ∧ Input.okWide C.prog (w.forCall tape i) .any w.heap.size f i ∧
      ((s.pre enc C.prog fn conds apart (w.forCall tape i).memory i.args ∧ X (w.forCall tape i).memory i.args) ∧ sizedMet enc C.prog fn (OpenSpec.ofChange s) apart (w.forCall tape i).memory i.args) ∧ a.holds C.prog (lone (Frame.enter C.prog f i.args .normal) [] (w.forCall tape i)))
    (contract : ∀ (W : World) (base : Nat) (args : Array Value) (ds gs : List (DataW H)) (before : List MemPlace),
      (∀ (j : Nat) t v, fn.params[j]? = some t → args[j]? = some v → Value.okWide C.prog W .any base t v) →
      DataW.Whole enc C.prog fn.params.toList s.vars apart W args.toList ds gs before → W.ShapedOpen C.prog → X W args →
      Calls C.prog f args W fun e W' => ∃ v, e = .returned v ∧ s.post enc C.prog fn apart fresh handsOn again W args v W') :
    ReturnsInHanded a C os f .any (fun w args => (s.pre enc C.prog fn conds apart w args ∧ X w args) ∧ sizedMet enc C.prog fn (OpenSpec.ofChange s) apart w args) (s.post enc C.prog fn apart fresh handsOn again) := by
  refine returnsInHanded_of_calls own started noInit witness ?_
  intro w tape i _ hsh _ hok hpre _
  obtain ⟨_, _, _, fn', hfn', _, _, _, _, hval⟩ := hok
  have e : fn' = fn := Option.some.inj (hfn'.symm.trans hfn)
  subst e
  obtain ⟨⟨⟨ds, gs, before, hw, _⟩, hx⟩, _⟩ := hpre
  have hw' := DataW.Whole.of_heap (w' := w.forCall tape i) (by rfl) hw
  refine (contract (w.forCall tape i) w.heap.size i.args ds gs before hval hw' hsh (hX _ _ _ (by rfl) hx)).mono fun e W' ⟨v, he, hp⟩ => ?_
  subst he
  exact ChangeSpec.post_blind hp
/-- internal/bytealg.MaxLen holds some int. -/
def MaxL (w : World) : Prop := ∃ m, w.cell? ⟨0, 0, none⟩ = some (.int .i64 m)
theorem MaxL.below {w w' : World} (h : MaxL w) (hb : Below w.heap.size w w') : MaxL w' := by
  obtain ⟨m, hm⟩ := h
  exact ⟨m, (hb.cell (World.block_lt_of_cell? _ _ hm)).trans hm⟩
theorem MaxL.shaped {w : World} (h : w.ShapedOpen Tryz.prog) : MaxL w :=
  cell_of_shapedOpen_int (zero := #[.int .i64 0]) (t := 3) h (of_decide_eq_true (by kernel_rfl)) (by kernel_rfl) rfl (by kernel_rfl) (by kernel_rfl) Tryz.underlying3
end Go.Proofs.YtndfhmphlomeiaaGreatDoor
/- Contracts of the helpers of the laws on []string: eqStringS, markText, markStringS, heldStringS. No condition but the readings. -/
namespace Go.Proofs.YtndfhmphlomeiaaGreatDoor
open Go.RowKit
theorem bytes_beq (a b : ByteArray) : (a.toList == b.toList) = decide (a = b) := by
  rw [ByteArray.toList_eq, ByteArray.toList_eq, Bool.eq_iff_iff, beq_iff_eq, decide_eq_true_iff]
  constructor
  · intro h; cases a; cases b; simp at h; simp [h]
  · intro h; rw [h]
theorem bytes_ne_of {a b : ByteArray} (h : (a.toList == b.toList) = false) : a ≠ b := by
  rw [bytes_beq] at h; simpa using h
theorem bytes_eq_of {a b : ByteArray} (h : (a.toList == b.toList) = true) : a = b := by
  rw [bytes_beq] at h; simpa using h
theorem take_eq_succ {α : Type} {l1 l2 : List α} {k : Nat} (h : l1.take k = l2.take k) (h1 : k < l1.length) (h2 : k < l2.length) (h3 : l1[k] = l2[k]) : l1.take (k + 1) = l2.take (k + 1) := by
  rw [List.take_succ_eq_append_getElem h1, List.take_succ_eq_append_getElem h2, h, h3]
/-- 'string([]byte{c})' -/
@[go_sem] theorem conv_one (w : World) (n : Int) : (convert 22 9 (.slice (some ⟨w.heap.size, 0, none⟩) 1 1)).run Tryz.prog (w.alloc (.cells #[.int .u8 n] 5)) =
    .ok (.string ⟨#[UInt8.ofNat n.toNat]⟩) (w.alloc (.cells #[.int .u8 n] 5)) := by
  rw [run_convert_bytes_string _ _ _ 5 _ _ _ Tryz.underlying22 Tryz.underlying5 Tryz.underlying9]
  have hl := run_loadCells_list (P := Tryz.prog) (w.alloc (.cells #[.int .u8 n] 5)) ⟨w.heap.size, 0, none⟩ [.int .u8 n] (fun j v hj => by
    match j, hj with
    | 0, hj => simp at hj; subst hj; simp [Addr.add, World.cell?_alloc_mark])
  rw [run_bytesToString _ _ 1 1 [n] (by simpa using hl)]
  rfl
end Go.Proofs.YtndfhmphlomeiaaGreatDoor
/- Appending one element to a slice of the call's own; reading such a slice as a string; slices made empty. Condition: Go's own bound on the bytes of a slice. -/
namespace Go.Proofs.YtndfhmphlomeiaaGreatDoor
open Go.RowKit
section
variable {P : Program}
/-- append(s, x), x's one element laid in a new block just ahead of it. -/
theorem app_one {ops : Array Oper} {rest : List Oper} {o : Oper} {a : Act} {Q : Exit → Act → World → Prop} {w : World} (hgd : o.guard = none) (s x : Operand) (t e bytes : Nat) (size : Nat)
    (ho : o.op = .call { callee := .builtin .append, args := #[s, x], argTypes := #[t, t] }) (ht : P.underlying t = some (.slice e))
    (z : Value) (hinfo : (P.info? e).map (fun i => (i.zero, i.size, i.bytes)) = some (some z, size, bytes)) (hz : z.cells.size = size) (hsz : 0 < size)
    (B : Nat) (v : Value) (n : Nat) (xs : List Value) (hs : a.eval s = v) (hown : w.ownsRow B e size v n xs) (us : Array Value) (hx : a.eval x = .slice (some ⟨w.heap.size, 0, none⟩) 1 1) (hus : us.size = size) (h1 : ∀ u ∈ us.toList, u.oneCell' = true)
    (hn : n + 1 ≤ 4611686018427387904) (hbytes : (n + 1) * bytes ≤ 140737488355328) (hB : B ≤ w.heap.size)
    (h : ∀ g cap w', w'.ownsRow B e size (.slice (some ⟨g, 0, none⟩) (n + 1) cap) (n + 1) (xs ++ us.toList) → (∀ w0, Below B w0 w → Below B w0 w') → w.grownBy w' v.ownBlock → wpList P ops Q rest (a.put o.dst (.slice (some ⟨g, 0, none⟩) (n + 1) cap)) w') :
    wpList P ops Q (o :: rest) a (w.alloc (.cells us e)) := by
  obtain ⟨i, hi, hz0, hz1, hz2⟩ := info_parts hinfo
  refine wpList_append_own _ hgd s x t ho B e i z size bytes ht hi hz0 hz1 hz2 hz hsz v n xs hs (hown.alloc _) ⟨w.heap.size, 0, none⟩ 1 1 us.toList hx (by simpa using hus) ?_ h1 (by unfold maxLen; omega) hbytes (by simp; omega) ?_
  · intro j u hj
    have : (⟨w.heap.size, 0, none⟩ : Addr).add j = ⟨w.heap.size, j, none⟩ := by unfold Addr.add; split <;> simp_all
    rw [this]
    simp only [World.cell?, heap_alloc_new]
    simpa using hj
  · intro v' w' hown' hgrow _
    obtain ⟨g, cap, rfl⟩ : ∃ g cap, v' = .slice (some ⟨g, 0, none⟩) (n + 1) cap := by
      rcases hown'.2 with ⟨_, h0⟩ | ⟨g, cap, cur, hv, _⟩
      · omega
      · exact ⟨g, cap, hv⟩
    have hg2 : w.grownBy w' v.ownBlock := ⟨hgrow.os, hgrow.tape, hgrow.output, Nat.le_trans (by simp) hgrow.size, fun k hk hne => (hgrow.block k (by simp; omega) hne).trans (Below.heap_alloc w _ k hk)⟩
    exact h g cap w' hown' (fun w0 hb => hb.grown hg2 hB (fun k hk => (hown.lt k hk).1)) hg2
end
theorem infoStr : (Tryz.prog.info? 9).map (fun i => (i.zero, i.size, i.bytes)) = some (some (.string ⟨#[]⟩), 1, 16) := by kernel_rfl
/-- A slice of bytes of the call's own. -/
def OwnB (w : World) (B : Nat) (v : Value) (l : List UInt8) : Prop := w.ownsRow B 5 1 v l.length (Lib.byteCells l)
/-- A slice of strings of the call's own. -/
def OwnS (w : World) (B : Nat) (v : Value) (l : List ByteArray) : Prop := w.ownsRow B 9 1 v l.length (l.map Value.string)
theorem OwnB.below {w w' : World} {B v l} (h : OwnB w B v l) (hb : Below w.heap.size w w') : OwnB w' B v l :=
  World.ownsRow.kept h ⟨hb.os, hb.tape, hb.output, hb.size, fun k hk _ => hb.block k hk⟩ (by cases v.ownBlock <;> simp) (row := none)
theorem OwnS.below {w w' : World} {B v l} (h : OwnS w B v l) (hb : Below w.heap.size w w') : OwnS w' B v l :=
  World.ownsRow.kept h ⟨hb.os, hb.tape, hb.output, hb.size, fun k hk _ => hb.block k hk⟩ (by cases v.ownBlock <;> simp) (row := none)
theorem OwnB.shape {w : World} {B v l} (h : OwnB w B v l) : ∃ a cap, v = .slice a l.length cap ∧ l.length ≤ cap ∧ cap ≤ maxLen := by
  rcases h.2 with ⟨hv, h0⟩ | ⟨g, cap, cur, hv, _, _, h1, h2, _⟩
  · exact ⟨none, 0, by rw [hv, h0], by omega, by unfold maxLen; omega⟩
  · exact ⟨_, cap, hv, h1, h2⟩
theorem OwnS.shape {w : World} {B v l} (h : OwnS w B v l) : ∃ a cap, v = .slice a l.length cap ∧ l.length ≤ cap ∧ cap ≤ maxLen := by
  rcases h.2 with ⟨hv, h0⟩ | ⟨g, cap, cur, hv, _, _, h1, h2, _⟩
  · exact ⟨none, 0, by rw [hv, h0], by omega, by unfold maxLen; omega⟩
  · exact ⟨_, cap, hv, h1, h2⟩
/-- What is owned, as what can be read and written. -/
theorem own_SlW {w : World} {B e size : Nat} {v : Value} {n : Nat} {xs : List Value} (h : w.ownsRow B e size v n xs) : SlW w B w.heap.size e size v n xs := by
  rcases h.2 with ⟨rfl, rfl⟩ | ⟨g, cap, cur, rfl, hg, hh, h1, h2, h3, h4⟩
  · exact ⟨h.1, none, 0, rfl, Nat.le_refl _, by unfold maxLen; omega, .inl rfl⟩
  · refine ⟨h.1, _, cap, rfl, h1, h2, .inr ⟨g, 0, cur, rfl, hg, (Array.getElem?_eq_some_iff.1 hh).1, hh, ?_, by simpa using h4⟩⟩
    rw [h3]; simpa using Nat.mul_le_mul_right size h1
theorem OwnS.strs {w : World} {B v l} (h : OwnS w B v l) (hs : ∀ s ∈ l, s.size ≤ maxLen) : StrsW w B w.heap.size v l := ⟨own_SlW h, hs⟩
/-- '[]byte{}' and '[]string{}': a new row without cells. -/
theorem OwnB.made (w : World) (B : Nat) (h : B ≤ w.heap.size) : OwnB (w.alloc (.cells #[] 5)) B (.slice (some ⟨w.heap.size, 0, none⟩) 0 0) [] :=
  World.ownsRow_made w #[] 0 h (by unfold maxLen; omega) (by simp)
theorem OwnS.made (w : World) (B : Nat) (h : B ≤ w.heap.size) : OwnS (w.alloc (.cells #[] 9)) B (.slice (some ⟨w.heap.size, 0, none⟩) 0 0) [] :=
  World.ownsRow_made w #[] 0 h (by unfold maxLen; omega) (by simp)
/-- 'string(out)' -/
theorem OwnB.conv {w : World} {B v l} (h : OwnB w B v l) : (convert 22 9 v).run Tryz.prog w = .ok (.string ⟨l.toArray⟩) w := by
  rcases h.2 with ⟨rfl, h0⟩ | ⟨g, cap, cur, rfl, _, hh, h1, h2, h3, h4⟩
  · obtain rfl : l = [] := List.eq_nil_of_length_eq_zero h0
    rw [run_convert_bytes_string _ _ _ 5 _ _ _ Tryz.underlying22 Tryz.underlying5 Tryz.underlying9]
    simp [Conv.bytesToString]; rfl
  · refine run_convert_bytes_back w _ _ 5 ⟨g, 0, none⟩ cap l Tryz.underlying22 Tryz.underlying5 Tryz.underlying9 ?_
    intro j hj
    exact World.ownsRow.cells h (g := g) rfl j _ (by simp [Lib.byteCells, hj])
/-- append(out, s) for strings: one arm of a walk. -/
theorem app_str {ops : Array Oper} {rest : List Oper} {o : Oper} {a : Act} {Q : Exit → Act → World → Prop} {w : World} (hgd : o.guard = none) (s x : Operand)
    (ho : o.op = .call { callee := .builtin .append, args := #[s, x], argTypes := #[35, 35] })
    (B : Nat) (v : Value) (l : List ByteArray) (hs : a.eval s = v) (hown : OwnS w B v l) (c : ByteArray) (hx : a.eval x = .slice (some ⟨w.heap.size, 0, none⟩) 1 1)
    (hn : l.length ≤ 4398046511104) (hB : B ≤ w.heap.size)
    (h : ∀ g cap w', OwnS w' B (.slice (some ⟨g, 0, none⟩) (l.length + 1) cap) (l ++ [c]) → (∀ w0, Below B w0 w → Below B w0 w') → w.grownBy w' v.ownBlock → wpList Tryz.prog ops Q rest (a.put o.dst (.slice (some ⟨g, 0, none⟩) (l.length + 1) cap)) w') :
    wpList Tryz.prog ops Q (o :: rest) a (w.alloc (.cells #[.string c] 9)) := by
  refine app_one hgd s x 35 9 16 1 ho Tryz.underlying35 (.string ⟨#[]⟩) infoStr rfl (by decide) B v l.length (l.map Value.string) hs hown #[.string c] hx rfl ?_ (by omega) (by omega) hB ?_
  · intro u hu; simp at hu; subst hu; rfl
  · intro g cap w' ho' hb hg
    refine h g cap w' ?_ hb hg
    unfold OwnS
    rw [List.length_append, List.map_append]
    exact ho'
end Go.Proofs.YtndfhmphlomeiaaGreatDoor
/- Lexicons as arguments: how one is opened; szStringS, szLexicon, toStringS, toLexicon, eqLexicon, markLexicon, heldLexicon. No condition but the readings. -/
namespace Go.Proofs.YtndfhmphlomeiaaGreatDoor
open Go.ChangeShapes Go.WideShapes Go.ChangeAt Go.RowKit
theorem u8_tri (a b : UInt8) : (decide (a < b) = true ∧ decide (b < a) = false ∧ (a == b) = false ∧ (b == a) = false) ∨ (decide (a < b) = false ∧ decide (b < a) = true ∧ (a == b) = false ∧ (b == a) = false) ∨ (a = b ∧ decide (a < b) = false ∧ decide (b < a) = false) := by
  simp only [UInt8.lt_iff_toNat_lt, beq_eq_false_iff_ne, ne_eq, ← UInt8.toNat_inj, decide_eq_true_eq, decide_eq_false_iff_not]
  omega
theorem bl_tri : ∀ (x y : List UInt8), (Op.bytesLess x y = true ∧ Op.bytesLess y x = false ∧ (x == y) = false ∧ (y == x) = false) ∨ (Op.bytesLess x y = false ∧ Op.bytesLess y x = true ∧ (x == y) = false ∧ (y == x) = false) ∨ (Op.bytesLess x y = false ∧ Op.bytesLess y x = false ∧ x = y)
  | [], [] => by simp [Op.bytesLess]
  | [], b :: y => by simp [Op.bytesLess]
  | a :: x, [] => by simp [Op.bytesLess]
  | a :: x, b :: y => by
    rcases u8_tri a b with ⟨h1, h2, h3, h4⟩ | ⟨h1, h2, h3, h4⟩ | ⟨rfl, h1, h2⟩
    · left; simp only [Op.bytesLess, h1, h2, h3, h4, List.cons_beq_cons, Bool.false_and, Bool.or_false, and_self]
    · right; left; simp only [Op.bytesLess, h1, h2, h3, h4, List.cons_beq_cons, Bool.false_and, Bool.or_false, and_self]
    · simp only [Op.bytesLess, h1, Bool.false_or, beq_self_eq_true, Bool.true_and, List.cons_beq_cons]
      rcases bl_tri x y with h | h | h
      · exact .inl h
      · exact .inr (.inl h)
      · exact .inr (.inr ⟨h.1, h.2.1, by rw [h.2.2]⟩)
theorem bl_trans : ∀ (x y z : List UInt8), Op.bytesLess x y = true → Op.bytesLess y z = true → Op.bytesLess x z = true
  | _, [], _ => by intro h; simp [Op.bytesLess] at h
  | _, b :: y, [] => by intro _ h; simp [Op.bytesLess] at h
  | [], b :: y, c :: z => by simp [Op.bytesLess]
  | a :: x, b :: y, c :: z => by
    have ih := bl_trans x y z
    simp only [Op.bytesLess, Bool.or_eq_true, decide_eq_true_eq, UInt8.lt_iff_toNat_lt, Bool.and_eq_true, beq_iff_eq, ← UInt8.toNat_inj]
    rintro (h1 | ⟨h1, h2⟩) (h3 | ⟨h3, h4⟩)
    · left; omega
    · left; omega
    · left; omega
    · right; exact ⟨h1.trans h3, ih h2 h4⟩
theorem cell_newi (w : World) (cs : Array Value) (t : TypeId) (i : Nat) (x : Value) (h : cs[i]? = some x) : (w.alloc (.cells cs t)).cell? ⟨w.heap.size, i, none⟩ = some x := by
  have h2 := heap_alloc_new w (.cells cs t)
  simp only [World.cell?, h2]
  exact h
theorem cell_alloc {w : World} {a : Addr} {x : Value} (o : Obj) (h : w.cell? a = some x) : (w.alloc o).cell? a = some x :=
  (World.cell?_alloc_lt _ _ _ (World.block_lt_of_cell? w a h)).trans h
theorem cell_below {w w' : World} {a : Addr} {x : Value} (hb : Below w.heap.size w w') (h : w.cell? a = some x) : w'.cell? a = some x := (hb.cell (World.block_lt_of_cell? _ _ h)).trans h
theorem cell_kept {w w' : World} {lo hi : Nat} {a : Addr} {x : Value} (hk : Kept lo hi w w') (h : w.cell? a = some x) (hd : a.block < lo ∨ hi ≤ a.block) : w'.cell? a = some x := by
  have hb := hk.block a.block (World.block_lt_of_cell? _ _ h) hd
  rw [← h]; unfold World.cell?; rw [hb]
theorem keepC {w' w'' : World} {A : Addr} {s : Value} {p p' : Prop} (hb : Below w'.heap.size w' w'') (h : w'.cell? A = some s ∧ p) (k : p → p') : w''.cell? A = some s ∧ p' := ⟨cell_below hb h.1, k h.2⟩
theorem keepE {W0 w' w'' : World} (hb : Below w'.heap.size w' w'') (h : Below W0.heap.size W0 w') : Below W0.heap.size W0 w'' := h.trans (hb.mono h.size)
/-- A lexicon that reads as words. -/
def LexR (w : World) (v : Value) (l : List ByteArray) : Prop := ∃ s, v = .agg #[s] ∧ Strs w s l
def LexW (w : World) (lo hi : Nat) (v : Value) (l : List ByteArray) : Prop := ∃ s, v = .agg #[s] ∧ StrsW w lo hi s l
theorem LexR.below {w w' : World} {v l} (h : LexR w v l) (hb : Below w.heap.size w w') : LexR w' v l := by obtain ⟨s, rfl, h⟩ := h; exact ⟨s, rfl, h.below hb⟩
theorem LexW.below {w w' : World} {lo hi v l} (h : LexW w lo hi v l) (hb : Below w.heap.size w w') : LexW w' lo hi v l := by obtain ⟨s, rfl, h⟩ := h; exact ⟨s, rfl, h.below hb⟩
theorem LexW.kept {w w' : World} {lo hi lo' hi' v l} (h : LexW w lo hi v l) (hb : Kept lo' hi' w w') (hd : hi ≤ lo' ∨ hi' ≤ lo) : LexW w' lo hi v l := by obtain ⟨s, rfl, h⟩ := h; exact ⟨s, rfl, h.kept hb hd⟩
theorem LexW.read {w : World} {lo hi v l} (h : LexW w lo hi v l) : LexR w v l := by obtain ⟨s, rfl, h⟩ := h; exact ⟨s, rfl, h.read⟩
theorem LexW.mono {w : World} {lo hi lo' hi' v l} (h : LexW w lo hi v l) (hl : lo' ≤ lo) (hh : hi ≤ hi') : LexW w lo' hi' v l := by obtain ⟨s, rfl, h⟩ := h; exact ⟨s, rfl, h.mono hl hh⟩
theorem LexR.shape {w : World} {v l} (h : LexR w v l) : ∃ a c, v = .agg #[.slice a l.length c] := by
  obtain ⟨s, rfl, h⟩ := h
  obtain ⟨a, c, rfl, _⟩ := h.shape
  exact ⟨a, c, rfl⟩
theorem LexW.shape {w : World} {lo hi v l} (h : LexW w lo hi v l) : ∃ a c, v = .agg #[.slice a l.length c] := h.read.shape
theorem set1 {w : World} {g : Nat} {x : Value} {t : TypeId} {fr : Nat × Nat} (y : Value) (h : w.heap[g]? = some (.cells #[x] t fr)) : (w.setCell ⟨g, 0, none⟩ y).heap[g]? = some (.cells #[y] t fr) := by
  simp [World.setCell, Array.getElem?_modify, h]
end Go.Proofs.YtndfhmphlomeiaaGreatDoor
/- Affixes as arguments: how one is opened; szAffix, toAffix. No condition but the readings. -/
namespace Go.Proofs.YtndfhmphlomeiaaGreatDoor
open Go.Joins Go.ChangeShapes Go.WideShapes Go.ChangeAt Go.RowKit Go.Deep
/-- What an affix holds. -/
structure AffD where
  name : ByteArray
  front : Bool
  cond : ByteArray
  strip : ByteArray
  add : ByteArray
deriving DecidableEq
structure AffLim (x : AffD) (m : Nat) : Prop where
  n : x.name.size ≤ m
  c : x.cond.size ≤ m
  s : x.strip.size ≤ m
  a : x.add.size ≤ m
theorem AffLim.mono {x : AffD} {m k : Nat} (h : AffLim x m) (hk : m ≤ k) : AffLim x k := ⟨Nat.le_trans h.n hk, Nat.le_trans h.c hk, Nat.le_trans h.s hk, Nat.le_trans h.a hk⟩
def AffR (_w : World) (v : Value) (x : AffD) : Prop := v = .agg #[.string x.name, .bool x.front, .string x.cond, .string x.strip, .string x.add] ∧ AffLim x maxLen
def AffW (_w : World) (_lo _hi : Nat) (v : Value) (x : AffD) : Prop := v = .agg #[.string x.name, .bool x.front, .string x.cond, .string x.strip, .string x.add] ∧ AffLim x maxLen
theorem AffR.below {w w' : World} {v x} (h : AffR w v x) (_hb : Below w.heap.size w w') : AffR w' v x := h
theorem AffW.below {w w' : World} {lo hi v x} (h : AffW w lo hi v x) (_hb : Below w.heap.size w w') : AffW w' lo hi v x := h
theorem AffW.read {w : World} {lo hi v x} (h : AffW w lo hi v x) : AffR w v x := h
theorem AffR.shape {w : World} {v x} (h : AffR w v x) : v = .agg #[.string x.name, .bool x.front, .string x.cond, .string x.strip, .string x.add] := h.1
theorem AffW.shape {w : World} {lo hi v x} (h : AffW w lo hi v x) : v = .agg #[.string x.name, .bool x.front, .string x.cond, .string x.strip, .string x.add] := h.1
section
variable {H : Type} {enc : TypeId × Value → H} {P : Program} {w : World} {base : Nat} {spare : Nat → Bool} {held : Bool}
end
end Go.Proofs.YtndfhmphlomeiaaGreatDoor
/- Grammars as arguments: slices of affixes and of stems; how one is opened. No condition but the readings. -/
namespace Go.Proofs.YtndfhmphlomeiaaGreatDoor
open Go.Joins Go.ChangeShapes Go.WideShapes Go.ChangeAt Go.RowKit Go.Deep
theorem flat_get {α β : Type} (f : α → List β) (m : Nat) (hf : ∀ x, (f x).length = m) : ∀ (l : List α) (j : Nat) (hj : j < l.length) (i : Nat), i < m → (l.flatMap f)[j * m + i]? = (f l[j])[i]?
  | a :: l, 0, _, i, hi => by rw [List.flatMap_cons, Nat.zero_mul, Nat.zero_add, List.getElem?_append_left (by rw [hf]; exact hi)]; rfl
  | a :: l, j + 1, hj, i, hi => by
    rw [List.flatMap_cons, List.getElem?_append_right (by rw [hf, Nat.succ_mul]; omega), hf, show (j + 1) * m + i - m = j * m + i by rw [Nat.succ_mul]; omega, flat_get f m hf l j (by simpa using hj) i hi]
    rfl
section
variable {H : Type} {enc : TypeId × Value → H} {P : Program} {w : World} {base : Nat} {held : Bool}
end
/-! ### affixes -/
def affL (x : AffD) : List Value := [.string x.name, .bool x.front, .string x.cond, .string x.strip, .string x.add]
theorem affL_len (x : AffD) : (affL x).length = 5 := rfl
def Affs (w : World) (v : Value) (l : List AffD) : Prop := SlR w 5 v l.length (l.flatMap affL) ∧ ∀ x ∈ l, AffLim x maxLen
def AffsW (w : World) (lo hi : Nat) (v : Value) (l : List AffD) : Prop := SlW w lo hi 51 5 v l.length (l.flatMap affL) ∧ ∀ x ∈ l, AffLim x maxLen
theorem Affs.below {w w' : World} {v l} (h : Affs w v l) (hb : Below w.heap.size w w') : Affs w' v l := ⟨h.1.below hb, h.2⟩
theorem AffsW.below {w w' : World} {lo hi v l} (h : AffsW w lo hi v l) (hb : Below w.heap.size w w') : AffsW w' lo hi v l := ⟨h.1.below hb, h.2⟩
theorem AffsW.kept {w w' : World} {lo hi lo' hi' v l} (h : AffsW w lo hi v l) (hb : Kept lo' hi' w w') (hd : hi ≤ lo' ∨ hi' ≤ lo) : AffsW w' lo hi v l := ⟨h.1.kept hb hd, h.2⟩
theorem AffsW.read {w : World} {lo hi v l} (h : AffsW w lo hi v l) : Affs w v l := ⟨h.1.read, h.2⟩
theorem AffsW.mono {w : World} {lo hi lo' hi' v l} (h : AffsW w lo hi v l) (hl : lo' ≤ lo) (hh : hi ≤ hi') : AffsW w lo' hi' v l := ⟨h.1.mono hl hh, h.2⟩
/-- The value's shape and its cells. -/
theorem Affs.shape {w : World} {v l} (h : Affs w v l) : ∃ a c, v = .slice a l.length c ∧ l.length ≤ c ∧ c ≤ maxLen ∧
    ∀ j, (hj : j < l.length) → ∃ b off, a = some ⟨b, off, none⟩ ∧ w.cell? ⟨b, off + j * 5, none⟩ = some (.string l[j].name) ∧ w.cell? ⟨b, off + j * 5 + 1, none⟩ = some (.bool l[j].front) ∧ w.cell? ⟨b, off + j * 5 + 2, none⟩ = some (.string l[j].cond) ∧
      w.cell? ⟨b, off + j * 5 + 3, none⟩ = some (.string l[j].strip) ∧ w.cell? ⟨b, off + j * 5 + 4, none⟩ = some (.string l[j].add) ∧ AffLim l[j] maxLen := by
  obtain ⟨⟨_, a, c, h1, h2, h3, h4⟩, h5⟩ := h
  refine ⟨a, c, h1, h2, h3, fun j hj => ?_⟩
  have g := fun i hi => flat_get affL 5 affL_len l j hj i hi
  obtain ⟨b, off, e, hc0⟩ := h4 _ _ (g 0 (by omega))
  subst e
  refine ⟨b, off, rfl, hc0, ?_, ?_, ?_, ?_, h5 _ (List.getElem_mem _)⟩
  all_goals
    first
    | (obtain ⟨b', off', e, hc⟩ := h4 _ _ (g 1 (by omega)); cases e; exact hc)
    | (obtain ⟨b', off', e, hc⟩ := h4 _ _ (g 2 (by omega)); cases e; exact hc)
    | (obtain ⟨b', off', e, hc⟩ := h4 _ _ (g 3 (by omega)); cases e; exact hc)
    | (obtain ⟨b', off', e, hc⟩ := h4 _ _ (g 4 (by omega)); cases e; exact hc)
/-! ### stems -/
structure StemD where
  word : ByteArray
  uses : List ByteArray
deriving DecidableEq
def stemL (p : StemD × Value) : List Value := [.string p.1.word, p.2]
theorem stemL_len (p : StemD × Value) : (stemL p).length = 2 := rfl
def Stems (w : World) (v : Value) (l : List StemD) : Prop := ∃ us : List Value, us.length = l.length ∧ SlR w 2 v l.length ((l.zip us).flatMap stemL) ∧ ∀ j (h : j < l.length) (h' : j < us.length), l[j].word.size ≤ maxLen ∧ Strs w us[j] l[j].uses
def StemsW (w : World) (lo hi : Nat) (v : Value) (l : List StemD) : Prop := ∃ us : List Value, us.length = l.length ∧ SlW w lo hi 59 2 v l.length ((l.zip us).flatMap stemL) ∧ ∀ j (h : j < l.length) (h' : j < us.length), l[j].word.size ≤ maxLen ∧ StrsW w lo hi us[j] l[j].uses
theorem Stems.below {w w' : World} {v l} (h : Stems w v l) (hb : Below w.heap.size w w') : Stems w' v l := by
  obtain ⟨us, h1, h2, h3⟩ := h; exact ⟨us, h1, h2.below hb, fun j h h' => ⟨(h3 j h h').1, (h3 j h h').2.below hb⟩⟩
theorem StemsW.below {w w' : World} {lo hi v l} (h : StemsW w lo hi v l) (hb : Below w.heap.size w w') : StemsW w' lo hi v l := by
  obtain ⟨us, h1, h2, h3⟩ := h; exact ⟨us, h1, h2.below hb, fun j h h' => ⟨(h3 j h h').1, (h3 j h h').2.below hb⟩⟩
theorem StemsW.kept {w w' : World} {lo hi lo' hi' v l} (h : StemsW w lo hi v l) (hb : Kept lo' hi' w w') (hd : hi ≤ lo' ∨ hi' ≤ lo) : StemsW w' lo hi v l := by
  obtain ⟨us, h1, h2, h3⟩ := h; exact ⟨us, h1, h2.kept hb hd, fun j h h' => ⟨(h3 j h h').1, (h3 j h h').2.kept hb hd⟩⟩
theorem StemsW.read {w : World} {lo hi v l} (h : StemsW w lo hi v l) : Stems w v l := by
  obtain ⟨us, h1, h2, h3⟩ := h; exact ⟨us, h1, h2.read, fun j h h' => ⟨(h3 j h h').1, (h3 j h h').2.read⟩⟩
theorem StemsW.mono {w : World} {lo hi lo' hi' v l} (h : StemsW w lo hi v l) (hl : lo' ≤ lo) (hh : hi ≤ hi') : StemsW w lo' hi' v l := by
  obtain ⟨us, h1, h2, h3⟩ := h; exact ⟨us, h1, h2.mono hl hh, fun j h h' => ⟨(h3 j h h').1, (h3 j h h').2.mono hl hh⟩⟩
theorem Stems.shape {w : World} {v l} (h : Stems w v l) : ∃ a c, v = .slice a l.length c ∧ l.length ≤ c ∧ c ≤ maxLen ∧
    ∀ j, (hj : j < l.length) → ∃ b off u, a = some ⟨b, off, none⟩ ∧ w.cell? ⟨b, off + j * 2, none⟩ = some (.string l[j].word) ∧ w.cell? ⟨b, off + j * 2 + 1, none⟩ = some u ∧ l[j].word.size ≤ maxLen ∧ Strs w u l[j].uses := by
  obtain ⟨us, hu, ⟨_, a, c, h1, h2, h3, h4⟩, h5⟩ := h
  refine ⟨a, c, h1, h2, h3, fun j hj => ?_⟩
  have hj' : j < us.length := by omega
  have g := fun i hi => flat_get stemL 2 stemL_len (l.zip us) j (by simp; omega) i hi
  obtain ⟨b, off, e, hc0⟩ := h4 _ _ (g 0 (by omega))
  subst e
  obtain ⟨b', off', e, hc1⟩ := h4 _ _ (g 1 (by omega))
  cases e
  refine ⟨b, off, us[j], rfl, ?_, ?_, h5 j hj hj'⟩
  · simpa [stemL] using hc0
  · simpa [stemL, Nat.add_assoc] using hc1
/-! ### grammars -/
structure GraD where
  affixes : List AffD
  stems : List StemD
deriving DecidableEq
def GraR (w : World) (v : Value) (x : GraD) : Prop := ∃ s1 s2, v = .agg #[s1, s2] ∧ Affs w s1 x.affixes ∧ Stems w s2 x.stems
def GraW (w : World) (lo hi : Nat) (v : Value) (x : GraD) : Prop := ∃ s1 s2, v = .agg #[s1, s2] ∧ AffsW w lo hi s1 x.affixes ∧ StemsW w lo hi s2 x.stems
theorem GraR.below {w w' : World} {v x} (h : GraR w v x) (hb : Below w.heap.size w w') : GraR w' v x := by obtain ⟨s1, s2, e, h1, h2⟩ := h; exact ⟨s1, s2, e, h1.below hb, h2.below hb⟩
theorem GraW.below {w w' : World} {lo hi v x} (h : GraW w lo hi v x) (hb : Below w.heap.size w w') : GraW w' lo hi v x := by obtain ⟨s1, s2, e, h1, h2⟩ := h; exact ⟨s1, s2, e, h1.below hb, h2.below hb⟩
theorem GraW.kept {w w' : World} {lo hi lo' hi' v x} (h : GraW w lo hi v x) (hb : Kept lo' hi' w w') (hd : hi ≤ lo' ∨ hi' ≤ lo) : GraW w' lo hi v x := by obtain ⟨s1, s2, e, h1, h2⟩ := h; exact ⟨s1, s2, e, h1.kept hb hd, h2.kept hb hd⟩
theorem GraW.read {w : World} {lo hi v x} (h : GraW w lo hi v x) : GraR w v x := by obtain ⟨s1, s2, e, h1, h2⟩ := h; exact ⟨s1, s2, e, h1.read, h2.read⟩
theorem GraW.mono {w : World} {lo hi lo' hi' v x} (h : GraW w lo hi v x) (hl : lo' ≤ lo) (hh : hi ≤ hi') : GraW w lo' hi' v x := by obtain ⟨s1, s2, e, h1, h2⟩ := h; exact ⟨s1, s2, e, h1.mono hl hh, h2.mono hl hh⟩
theorem GraR.shape {w : World} {v x} (h : GraR w v x) : ∃ a c b d, v = .agg #[.slice a x.affixes.length c, .slice b x.stems.length d] := by
  obtain ⟨s1, s2, rfl, h1, h2⟩ := h
  obtain ⟨a, c, rfl, _⟩ := h1.shape
  obtain ⟨b, d, rfl, _⟩ := h2.shape
  exact ⟨a, c, b, d, rfl⟩
theorem GraW.shape {w : World} {lo hi v x} (h : GraW w lo hi v x) : ∃ a c b d, v = .agg #[.slice a x.affixes.length c, .slice b x.stems.length d] := h.read.shape
end Go.Proofs.YtndfhmphlomeiaaGreatDoor
/- Plain definitions and laws on bytes, words, names and piles; no program. -/
namespace Go.Proofs.YtndfhmphlomeiaaGreatDoor
def smallI (c : Int) : Bool := decide (97 ≤ c) && decide (c ≤ 122)
def digI (c : Int) : Bool := decide (48 ≤ c) && decide (c ≤ 57)
def inI (n low high : Int) : Bool := decide (low ≤ n) && decide (n ≤ high)
def smallAll (l : List UInt8) : Bool := l.all fun c => smallI c.toNat
def nameI (c : Int) : Bool := smallI c || digI c || decide (c = 45)
def nameAll (l : List UInt8) : Bool := l.all fun c => nameI c.toNat
def isWord (s : ByteArray) : Bool := smallAll s.data.toList && inI s.size 1 12
def isLong (s : ByteArray) : Bool := isWord s && decide (2 ≤ s.size)
def isName (s : ByteArray) : Bool := nameAll s.data.toList && inI s.size 1 12 && smallI ((s.data.toList.headD 0).toNat)
end Go.Proofs.YtndfhmphlomeiaaGreatDoor
/- Lists of bytes: where a byte stands, beginnings, ends, and what ReplaceAll leaves. No condition; no program. -/
namespace Go.Proofs.YtndfhmphlomeiaaGreatDoor
open Go.RowKit
theorem indexByte_spec (l : List UInt8) (c : UInt8) : (Lib.indexByte l c = -1 ∧ ∀ i, (h : i < l.length) → l[i] ≠ c) ∨ (∃ k, ∃ h : k < l.length, Lib.indexByte l c = (k : Int) ∧ l[k] = c ∧ ∀ i, (hi : i < k) → l[i]'(by omega) ≠ c) := by
  induction l with
  | nil => left; exact ⟨rfl, fun i h => by simp at h⟩
  | cons b l ih =>
    by_cases hb : b = c
    · right; refine ⟨0, by simp, ?_, by simpa using hb, fun i hi => by omega⟩
      simp [Lib.indexByte, hb]
    · rcases ih with ⟨h1, h2⟩ | ⟨k, hk, h1, h2, h3⟩
      · left
        refine ⟨by simp [Lib.indexByte, hb, h1], fun i h => ?_⟩
        cases i with
        | zero => simpa using hb
        | succ i => simpa using h2 i (by simpa using h)
      · right
        refine ⟨k + 1, by simpa using hk, ?_, by simpa using h2, fun i hi => ?_⟩
        · have : ((k : Int) == -1) = false := by rw [beq_eq_false_iff_ne]; omega
          simp [Lib.indexByte, hb, h1]
        · cases i with
          | zero => simpa using hb
          | succ i => simpa using h3 i (by omega)
/-- Beginning with p. -/
def begP (p s : ByteArray) : Bool := Lib.hasPrefix s.data.toList p.data.toList
theorem ext_take (s : ByteArray) (n : Nat) : (s.extract 0 n).data.toList = s.data.toList.take n := by
  rw [ByteArray.data_extract, Array.toList_extract, List.extract_eq_take_drop]; simp
theorem begP_iff {s p : ByteArray} : begP p s = true ↔ p.size ≤ s.size ∧ s.extract 0 p.size = p := by
  have hp : p.data.toList.length = p.size := Array.length_toList
  have hs : s.data.toList.length = s.size := Array.length_toList
  unfold begP Lib.hasPrefix
  rw [List.isPrefixOf_iff_prefix, List.prefix_iff_eq_take, hp]
  constructor
  · intro h
    have hl := congrArg List.length h
    rw [List.length_take, hp, hs] at hl
    refine ⟨by omega, ?_⟩
    apply ByteArray.ext
    apply Array.toList_inj.1
    rw [ext_take]
    exact h.symm
  · rintro ⟨_, h⟩
    rw [← ext_take, h]
theorem ext_drop (s : ByteArray) (n : Nat) : (s.extract n s.size).data.toList = s.data.toList.drop n := by
  rw [ByteArray.data_extract, Array.toList_extract, List.extract_eq_take_drop, List.take_of_length_le]
  rw [List.length_drop, Array.length_toList]
  exact Nat.le_refl _
theorem ba_inj {a b : ByteArray} (h : a.data.toList = b.data.toList) : a = b := by
  apply ByteArray.ext
  exact Array.toList_inj.1 h
theorem ba_sz (s : ByteArray) : s.data.toList.length = s.size := Array.length_toList
/-- Ending with p. -/
def finP (p s : ByteArray) : Bool := Lib.hasSuffix s.data.toList p.data.toList
theorem finP_iff {s p : ByteArray} : finP p s = true ↔ p.size ≤ s.size ∧ s.extract (s.size - p.size) s.size = p := by
  unfold finP Lib.hasSuffix
  rw [List.isSuffixOf_iff_suffix, List.suffix_iff_eq_drop, ba_sz, ba_sz]
  constructor
  · intro h
    have hl := congrArg List.length h
    rw [List.length_drop, ba_sz, ba_sz] at hl
    exact ⟨by omega, ba_inj (by rw [ext_drop]; exact h.symm)⟩
  · rintro ⟨_, h⟩
    rw [← ext_drop, h]
/-- ReplaceAll(s, c, nothing) leaves the other bytes. -/
theorem replace_filter (c : UInt8) : ∀ (n : Nat) (s : List UInt8), s.length ≤ n → Lib.replaceK [c] [] (Lib.count s [c]) s = s.filter (fun b => b != c)
  | n, s, hn => by
    rcases indexByte_spec s c with ⟨h1, h2⟩ | ⟨k, hk, h1, h2, h3⟩
    · have hi : Lib.index s [c] = -1 := by rw [Lib.index_one]; exact h1
      rw [Lib.count_miss hi, Lib.replaceK, eq_comm, List.filter_eq_self]
      intro b hb
      obtain ⟨i, hi, rfl⟩ := List.getElem_of_mem hb
      simpa using h2 i hi
    · have hi : Lib.index s [c] = (k : Int) := by rw [Lib.index_one]; exact h1
      have hne : ([c] : List UInt8) ≠ [] := by simp
      rw [Lib.count_hit hne hi, Nat.add_comm, Lib.replaceK_hit _ _ _ _ _ hi]
      have hd : (s.drop (k + 1)).length < s.length := by rw [List.length_drop]; omega
      match n, hn with
      | 0, hn => omega
      | n + 1, hn =>
        have ih := replace_filter c n (s.drop (k + 1)) (by omega)
        simp only [List.length_singleton] at *
        rw [ih]
        have e : s = s.take k ++ s[k] :: s.drop (k + 1) := by rw [← List.drop_eq_getElem_cons hk, List.take_append_drop]
        have e1 : (s.take k).filter (fun b => b != c) = s.take k := by
          rw [List.filter_eq_self]
          intro b hb
          obtain ⟨i, hi, rfl⟩ := List.getElem_of_mem hb
          rw [List.length_take] at hi
          rw [List.getElem_take]
          simpa using h3 i (by omega)
        conv => rhs; rw [e]
        rw [List.filter_append, List.filter_cons, e1, h2]
        simp
theorem replaceAll_filter (s : List UInt8) (c : UInt8) : Lib.replaceAll s [c] [] = s.filter (fun b => b != c) := by
  unfold Lib.replaceAll Lib.replace
  rw [if_neg (by simp)]
  have : Lib.replaceNum s [c] (-1) = Lib.count s [c] := by simp [Lib.replaceNum]
  rw [this]
  exact replace_filter c s.length s (Nat.le_refl _)
/-- Small letters and periods. -/
def wildAll (l : List UInt8) : Bool := l.all fun c => smallI c.toNat || decide (c = 46)
theorem dots_small (s : List UInt8) : smallAll (Lib.replaceAll s [46] []) = wildAll s := by
  rw [replaceAll_filter]
  unfold smallAll wildAll
  rw [List.all_filter]
  congr 1
  funext c
  by_cases h : c = 46
  · subst h; simp
  · simp [h]
end Go.Proofs.YtndfhmphlomeiaaGreatDoor
/- Contracts of the functions on words, names and piles: small, capital, digit, onlySmall, IsWord, isLong, IsName, place, onlyTiles, ValidPile, in the program and in the reference. Conditions: the strings' lengths are those of Go's strings. -/
namespace Go.Proofs.YtndfhmphlomeiaaGreatDoor
open Go.RowKit
theorem quiet_eq {P : Program} {f : FuncId} {args : Array Value} {w : World} {n : Nat} {v : Value}
    (h : Calls P f args (w.drewN n) fun e w' => e = .returned v ∧ w.drewN n = w') : Calls P f args (w.drewN n) fun e w'' => e = .returned v ∧ ∃ m, w'' = w.drewN m :=
  h.mono fun _ _ ⟨he, hm⟩ => ⟨he, n, hm.symm⟩
theorem take_snoc (s : ByteArray) (k : Nat) (h : k < s.size) : s.data.toList.take (k + 1) = s.data.toList.take k ++ [s[k]] := by
  rw [List.take_succ_eq_append_getElem (by simpa using h)]; rfl
theorem take_all (s : ByteArray) : s.data.toList.take s.size = s.data.toList := by
  rw [List.take_of_length_le]; simp
theorem all_take_succ (f : UInt8 → Bool) (s : ByteArray) (k : Nat) (h : k < s.size) : (s.data.toList.take (k+1)).all f = ((s.data.toList.take k).all f && f s[k]) := by
  rw [take_snoc s k h]; simp
theorem all_of_take (f : UInt8 → Bool) (s : ByteArray) (k : Nat) (h : k < s.size) (h' : f s[k] = false) : s.data.toList.all f = false := by
  rw [List.all_eq_false]
  exact ⟨s[k], by simp [ByteArray.getElem_eq_getElem_data], by simp [h']⟩
/-- The world behind '[]byte(s)'. -/
theorem bytes_world (w : World) (s : ByteArray) (cap : Nat) (e : TypeId) : ∃ W0, W0 = (w.alloc (.cells (bytesRow s cap) e ((bytesRow s cap).size, (bytesRow s cap).size + 1))).drew ∧ Below w.heap.size w W0 ∧
    ∀ k, (h : k < s.size) → W0.cell? ⟨w.heap.size, k, none⟩ = some (.int .u8 s[k].toNat) :=
  ⟨_, rfl, ((Below.refl _ _).alloc (Nat.le_refl _) _).drew, fun k h => by
    show (w.alloc _).cell? _ = _
    rw [World.cell?_alloc_mark, bytesRow_at s cap k h]; rfl⟩
theorem l01Small_any (c : Int) (w : World) :
    Calls Tryz.prog 100 #[.int .u8 c] w fun e w' => e = .returned (.bool (smallI c)) ∧ w = w' := by
  by_cases h : 97 ≤ c <;> go_enter Tryz.func100, Tryz.ntmps100 <;> go_wp2 <;> go_ret <;> exact ⟨ret_bool (by simp [smallI] <;> omega), rfl⟩
theorem small_any (c : Int) (w : World) :
    Calls Tryz.prog 90 #[.int .u8 c] w fun e w' => e = .returned (.bool (smallI c)) ∧ w = w' := by
  by_cases h : 97 ≤ c <;> go_enter Tryz.func90, Tryz.ntmps90 <;> go_wp2 <;> go_ret <;> exact ⟨ret_bool (by simp [smallI] <;> omega), rfl⟩
theorem digit_any (c : Int) (w : World) :
    Calls Tryz.prog 91 #[.int .u8 c] w fun e w' => e = .returned (.bool (digI c)) ∧ w = w' := by
  by_cases h : 48 ≤ c <;> go_enter Tryz.func91, Tryz.ntmps91 <;> go_wp2 <;> go_ret <;> exact ⟨ret_bool (by simp [digI] <;> omega), rfl⟩
theorem l01Digit_any (c : Int) (w : World) :
    Calls Tryz.prog 101 #[.int .u8 c] w fun e w' => e = .returned (.bool (digI c)) ∧ w = w' := by
  by_cases h : 48 ≤ c <;> go_enter Tryz.func101, Tryz.ntmps101 <;> go_wp2 <;> go_ret <;> exact ⟨ret_bool (by simp [digI] <;> omega), rfl⟩
theorem l00In_any (n l h : Int) (w : World) :
    Calls Tryz.prog 110 #[.int .i64 n, .int .i64 l, .int .i64 h] w fun e w' => e = .returned (.bool (inI n l h)) ∧ w = w' := by
  by_cases h : l ≤ n <;> go_enter Tryz.func110, Tryz.ntmps110 <;> go_wp2 <;> go_ret <;> exact ⟨ret_bool (by simp [inI] <;> omega), rfl⟩
theorem specIsWord_any (s : ByteArray) (w : World) (hs : s.size ≤ maxLen) :
    Calls Tryz.prog 102 #[.string s] w fun e w' => e = .returned (.bool (isWord s)) ∧ w = w' := by
  unfold maxLen at hs
  go_enter Tryz.func102, Tryz.ntmps102
  go_wp2
  go_loop [3] (fun i => ∃ k : Nat, k ≤ s.size ∧ i = .int .i64 k ∧ smallAll (s.data.toList.take k) = true) (fun i => s.size - (intOf i).toNat)
  case atStart => exact ⟨0, Nat.zero_le _, rfl, rfl⟩
  case round =>
    obtain ⟨k, hk, rfl, hall⟩ := hrel
    have Hall := Lib.hid hall; clear hall
    by_cases hlt : k < s.size
    · cases hsm : smallI s[k].toNat
      · go_wp2_with (go_at_call 100; refine (l01Small_any _ _).mono ?_; rintro e w' ⟨rfl, rfl⟩)
        go_ret
        exact ⟨ret_bool (by rw [isWord, smallAll, all_of_take _ s k hlt hsm]; rfl), rfl⟩
      · go_wp2_with (go_at_call 100; refine (l01Small_any _ _).mono ?_; rintro e w' ⟨rfl, rfl⟩)
        go_round
        case rel => exact ⟨k + 1, by omega, by go_num, by unfold smallAll; rw [all_take_succ _ s k hlt]; show (smallAll _ && _) = true; rw [Hall.out, hsm]; rfl⟩
        case measure => simp [intOf]; omega
    · go_wp2_with (go_at_call 110; refine (l00In_any _ _ _ _).mono ?_; rintro e w' ⟨rfl, rfl⟩)
      go_ret
      obtain rfl : k = s.size := by omega
      have h := Hall.out
      rw [take_all] at h
      exact ⟨ret_bool (by rw [isWord, h]; rfl), rfl⟩
theorem onlySmall_any (s : ByteArray) (w : World) (hs : s.size ≤ maxLen) :
    Calls Tryz.prog 71 #[.string s] w fun e w' => e = .returned (.bool (smallAll s.data.toList)) ∧ Below w.heap.size w w' := by
  unfold maxLen at hs
  have hcv := run_bytes_of_string (P := Tryz.prog) w 9 22 5 s Tryz.underlying9 Tryz.underlying22 Tryz.underlying5
  go_enter Tryz.func71, Tryz.ntmps71
  go_wp2
  obtain ⟨W0, hW, hb, hcell⟩ := bytes_world w s (grownCap w s.size 0 5) 5
  rw [← hW]
  clear hW hcv
  generalize grownCap w s.size 0 5 = cap
  go_loop [8] (fun i => ∃ k : Nat, k ≤ s.size ∧ i = .int .i64 k ∧ smallAll (s.data.toList.take k) = true) (fun i => s.size - (intOf i).toNat)
  case atStart => exact ⟨0, Nat.zero_le _, rfl, rfl⟩
  case round =>
    obtain ⟨k, hk, rfl, hall⟩ := hrel
    have Hall := Lib.hid hall; clear hall
    by_cases hlt : k < s.size
    · have hc := hcell k hlt
      clear hcell
      cases hsm : smallI s[k].toNat
      · go_wp2_with (go_at_call 90; refine (small_any _ _).mono ?_; rintro e w' ⟨rfl, rfl⟩)
        go_ret
        exact ⟨ret_bool (by rw [smallAll, all_of_take _ s k hlt hsm]), hb⟩
      · go_wp2_with (go_at_call 90; refine (small_any _ _).mono ?_; rintro e w' ⟨rfl, rfl⟩)
        go_round
        case rel => exact ⟨k + 1, by omega, by go_num, by unfold smallAll; rw [all_take_succ _ s k hlt]; show (smallAll _ && _) = true; rw [Hall.out, hsm]; rfl⟩
        case measure => simp [intOf]; omega
    · go_wp2
      go_ret
      obtain rfl : k = s.size := by omega
      have h := Hall.out
      rw [take_all] at h
      exact ⟨ret_bool h.symm, hb⟩
theorem implIsWord_any (s : ByteArray) (w : World) (hs : s.size ≤ maxLen) :
    Calls Tryz.prog 93 #[.string s] w fun e w' => e = .returned (.bool (isWord s)) ∧ Below w.heap.size w w' := by
  have hs' := Lib.hid hs
  unfold maxLen at hs
  by_cases h1 : 1 ≤ s.size
  · by_cases h2 : s.size ≤ 12
    · go_enter Tryz.func93, Tryz.ntmps93
      go_wp2_with (go_at_call 71; refine (onlySmall_any _ _ hs'.out).mono ?_; rintro e w' ⟨rfl, hb⟩)
      go_ret
      exact ⟨ret_bool (by simp [isWord, inI]; omega), hb⟩
    · go_enter Tryz.func93, Tryz.ntmps93
      go_wp2
      go_ret
      exact ⟨ret_bool (by simp [isWord, inI]; omega), Below.refl _ _⟩
  · go_enter Tryz.func93, Tryz.ntmps93
    go_wp2
    go_ret
    exact ⟨ret_bool (by simp [isWord, inI]; omega), Below.refl _ _⟩
theorem isLong_any (s : ByteArray) (w : World) (hs : s.size ≤ maxLen) :
    Calls Tryz.prog 73 #[.string s] w fun e w' => e = .returned (.bool (isLong s)) ∧ Below w.heap.size w w' := by
  have hs' := Lib.hid hs
  unfold maxLen at hs
  by_cases h1 : 2 ≤ s.size
  · go_enter Tryz.func73, Tryz.ntmps73
    go_wp2_with (go_at_call 93; refine (implIsWord_any _ _ hs'.out).mono ?_; rintro e w' ⟨rfl, hb⟩)
    go_ret
    exact ⟨ret_bool (by simp [isLong, h1]), hb⟩
  · go_enter Tryz.func73, Tryz.ntmps73
    go_wp2
    go_ret
    exact ⟨ret_bool (by simp [isLong, h1]), Below.refl _ _⟩
theorem l05Long_any (s : ByteArray) (w : World) (hs : s.size ≤ maxLen) :
    Calls Tryz.prog 83 #[.string s] w fun e w' => e = .returned (.bool (isLong s)) ∧ w = w' := by
  have hs' := Lib.hid hs
  unfold maxLen at hs
  by_cases h1 : 2 ≤ s.size
  · go_enter Tryz.func83, Tryz.ntmps83
    go_wp2_with (go_at_call 102; refine (specIsWord_any _ _ hs'.out).mono ?_; rintro e w' ⟨rfl, rfl⟩)
    go_ret
    exact ⟨ret_bool (by simp [isLong, h1]), rfl⟩
  · go_enter Tryz.func83, Tryz.ntmps83
    go_wp2
    go_ret
    exact ⟨ret_bool (by simp [isLong, h1]), rfl⟩
theorem toList_size (s : ByteArray) : s.toList.length = s.size := by rw [ByteArray.toList_eq]; simp
theorem isEmpty_false {s : ByteArray} (h : 0 < s.size) : s.toList.isEmpty = false := by
  have := toList_size s
  cases hl : s.toList with
  | nil => rw [hl] at this; simp at this; omega
  | cons a l => rfl
theorem isEmpty_true {s : ByteArray} (h : s.size = 0) : s.toList.isEmpty = true := by
  have := toList_size s
  cases hl : s.toList with
  | nil => rfl
  | cons a l => rw [hl] at this; simp at this; omega
theorem size_zero {s : ByteArray} (h : s.size = 0) : s = ByteArray.empty := by
  apply ByteArray.ext
  exact Array.eq_empty_of_size_eq_zero h
theorem headD_eq {s : ByteArray} (h : 0 < s.size) : s.data.toList.headD 0 = s[0] := by
  have hl : 0 < s.data.toList.length := by simpa using h
  rw [List.headD_eq_head?_getD, List.head?_eq_getElem?, List.getElem?_eq_getElem hl]; rfl
theorem isName_no {s : ByteArray} (h : s.size = 0 ∨ 12 < s.size) : isName s = false := by
  simp [isName, inI]; omega
theorem isName_first {s : ByteArray} (h : 0 < s.size) (h1 : smallI s[0].toNat = false) : isName s = false := by
  rw [isName, headD_eq h, h1]; simp
theorem isName_yes {s : ByteArray} (h : 0 < s.size) (h2 : s.size ≤ 12) (h1 : smallI s[0].toNat = true) (h3 : nameAll s.data.toList = true) : isName s = true := by
  rw [isName, headD_eq h, h1, h3]; simp [inI]; omega
theorem nameI_true {c : Int} (h : nameI c = true) : smallI c = true ∨ (smallI c = false ∧ digI c = true) ∨ (smallI c = false ∧ digI c = false ∧ c = 45) := by
  unfold nameI at h
  cases h1 : smallI c <;> cases h2 : digI c <;> simp_all
theorem nameI_false {c : Int} (h : nameI c = false) : smallI c = false ∧ digI c = false ∧ c ≠ 45 := by
  unfold nameI at h
  cases h1 : smallI c <;> cases h2 : digI c <;> simp_all
theorem specIsName_any (s : ByteArray) (w : World) (hs : s.size ≤ maxLen) :
    Calls Tryz.prog 81 #[.string s] w fun e w' => e = .returned (.bool (isName s)) ∧ w = w' := by
  unfold maxLen at hs
  by_cases h0 : s.size = 0
  · have H0 := Lib.hid h0
    obtain rfl := size_zero h0
    clear h0
    go_enter Tryz.func81, Tryz.ntmps81
    go_wp2
    go_ret
    exact ⟨ret_bool (isName_no (.inl rfl)).symm, rfl⟩
  · have hpos : 0 < s.size := by omega
    have hemp := isEmpty_false hpos
    clear h0
    by_cases h12 : s.size ≤ 12
    · cases hf : smallI s[0].toNat
      · go_enter Tryz.func81, Tryz.ntmps81
        go_wp2_with (go_at_call 100; refine (l01Small_any _ _).mono ?_; rintro e w' ⟨rfl, rfl⟩)
        go_ret
        exact ⟨ret_bool (isName_first hpos hf).symm, rfl⟩
      · go_enter Tryz.func81, Tryz.ntmps81
        go_wp2_with (go_at_call 100; refine (l01Small_any _ _).mono ?_; rintro e w' ⟨rfl, rfl⟩)
        have Hf := Lib.hid hf; clear hf
        go_loop [3] (fun i => ∃ k : Nat, k ≤ s.size ∧ i = .int .i64 k ∧ nameAll (s.data.toList.take k) = true) (fun i => s.size - (intOf i).toNat)
        case atStart => exact ⟨0, Nat.zero_le _, rfl, rfl⟩
        case round =>
          obtain ⟨k, hk, rfl, hall⟩ := hrel
          have Hall := Lib.hid hall; clear hall
          by_cases hlt : k < s.size
          · cases hn : nameI s[k].toNat
            · obtain ⟨hn1, hn2, hn3⟩ := nameI_false hn
              have hn4 : ((s[k].toNat : Int) != 45) = true := by rw [bne_iff_ne]; exact hn3
              go_wp2_with (first | (go_at_call 100; refine (l01Small_any _ _).mono ?_; rintro e w' ⟨rfl, rfl⟩) | (go_at_call 101; refine (l01Digit_any _ _).mono ?_; rintro e w' ⟨rfl, rfl⟩))
              go_ret
              exact ⟨ret_bool (by rw [isName, nameAll, all_of_take _ s k hlt hn]; rfl), rfl⟩
            · have hnx : nameAll (s.data.toList.take (k + 1)) = true := by unfold nameAll; rw [all_take_succ _ s k hlt]; show (nameAll _ && _) = true; rw [Hall.out, hn]; rfl
              have Hnx := Lib.hid hnx; clear hnx
              rcases nameI_true hn with hn1 | ⟨hn1, hn2⟩ | ⟨hn1, hn2, hn3⟩
              · go_wp2_with (first | (go_at_call 100; refine (l01Small_any _ _).mono ?_; rintro e w' ⟨rfl, rfl⟩) | (go_at_call 101; refine (l01Digit_any _ _).mono ?_; rintro e w' ⟨rfl, rfl⟩))
                go_round
                case rel => exact ⟨k + 1, by omega, by go_num, Hnx.out⟩
                case measure => simp [intOf]; omega
              · go_wp2_with (first | (go_at_call 100; refine (l01Small_any _ _).mono ?_; rintro e w' ⟨rfl, rfl⟩) | (go_at_call 101; refine (l01Digit_any _ _).mono ?_; rintro e w' ⟨rfl, rfl⟩))
                go_round
                case rel => exact ⟨k + 1, by omega, by go_num, Hnx.out⟩
                case measure => simp [intOf]; omega
              · have hn4 : ((s[k].toNat : Int) != 45) = false := by rw [bne_eq_false_iff_eq]; exact hn3
                clear hn3
                go_wp2_with (first | (go_at_call 100; refine (l01Small_any _ _).mono ?_; rintro e w' ⟨rfl, rfl⟩) | (go_at_call 101; refine (l01Digit_any _ _).mono ?_; rintro e w' ⟨rfl, rfl⟩))
                go_round
                case rel => exact ⟨k + 1, by omega, by go_num, Hnx.out⟩
                case measure => simp [intOf]; omega
          · go_wp2
            go_ret
            obtain rfl : k = s.size := by omega
            have h := Hall.out
            rw [take_all] at h
            exact ⟨ret_bool (isName_yes hpos h12 Hf.out h).symm, rfl⟩
    · go_enter Tryz.func81, Tryz.ntmps81
      go_wp2
      go_ret
      exact ⟨ret_bool (isName_no (.inr (by omega))).symm, rfl⟩
theorem implIsName_any (s : ByteArray) (w : World) (hs : s.size ≤ maxLen) :
    Calls Tryz.prog 70 #[.string s] w fun e w' => e = .returned (.bool (isName s)) ∧ w = w' := by
  unfold maxLen at hs
  by_cases h0 : s.size = 0
  · have H0 := Lib.hid h0
    obtain rfl := size_zero h0
    clear h0
    go_enter Tryz.func70, Tryz.ntmps70
    go_wp2
    go_ret
    exact ⟨ret_bool (isName_no (.inl rfl)).symm, rfl⟩
  · have hpos : 0 < s.size := by omega
    have hemp := isEmpty_false hpos
    clear h0
    by_cases h12 : s.size ≤ 12
    · cases hf : smallI s[0].toNat
      · go_enter Tryz.func70, Tryz.ntmps70
        go_wp2_with (go_at_call 90; refine (small_any _ _).mono ?_; rintro e w' ⟨rfl, rfl⟩)
        go_ret
        exact ⟨ret_bool (isName_first hpos hf).symm, rfl⟩
      · go_enter Tryz.func70, Tryz.ntmps70
        go_wp2_with (go_at_call 90; refine (small_any _ _).mono ?_; rintro e w' ⟨rfl, rfl⟩)
        have Hf := Lib.hid hf; clear hf
        go_loop [3] (fun i => ∃ k : Nat, k ≤ s.size ∧ i = .int .i64 k ∧ nameAll (s.data.toList.take k) = true) (fun i => s.size - (intOf i).toNat)
        case atStart => exact ⟨0, Nat.zero_le _, rfl, rfl⟩
        case round =>
          obtain ⟨k, hk, rfl, hall⟩ := hrel
          have Hall := Lib.hid hall; clear hall
          by_cases hlt : k < s.size
          · cases hn : nameI s[k].toNat
            · obtain ⟨hn1, hn2, hn3⟩ := nameI_false hn
              have hn4 : ((s[k].toNat : Int) != 45) = true := by rw [bne_iff_ne]; exact hn3
              go_wp2_with (first | (go_at_call 90; refine (small_any _ _).mono ?_; rintro e w' ⟨rfl, rfl⟩) | (go_at_call 91; refine (digit_any _ _).mono ?_; rintro e w' ⟨rfl, rfl⟩))
              go_ret
              exact ⟨ret_bool (by rw [isName, nameAll, all_of_take _ s k hlt hn]; rfl), rfl⟩
            · have hnx : nameAll (s.data.toList.take (k + 1)) = true := by unfold nameAll; rw [all_take_succ _ s k hlt]; show (nameAll _ && _) = true; rw [Hall.out, hn]; rfl
              have Hnx := Lib.hid hnx; clear hnx
              rcases nameI_true hn with hn1 | ⟨hn1, hn2⟩ | ⟨hn1, hn2, hn3⟩
              · go_wp2_with (first | (go_at_call 90; refine (small_any _ _).mono ?_; rintro e w' ⟨rfl, rfl⟩) | (go_at_call 91; refine (digit_any _ _).mono ?_; rintro e w' ⟨rfl, rfl⟩))
                go_round
                case rel => exact ⟨k + 1, by omega, by go_num, Hnx.out⟩
                case measure => simp [intOf]; omega
              · go_wp2_with (first | (go_at_call 90; refine (small_any _ _).mono ?_; rintro e w' ⟨rfl, rfl⟩) | (go_at_call 91; refine (digit_any _ _).mono ?_; rintro e w' ⟨rfl, rfl⟩))
                go_round
                case rel => exact ⟨k + 1, by omega, by go_num, Hnx.out⟩
                case measure => simp [intOf]; omega
              · have hn4 : ((s[k].toNat : Int) != 45) = false := by rw [bne_eq_false_iff_eq]; exact hn3
                clear hn3
                go_wp2_with (first | (go_at_call 90; refine (small_any _ _).mono ?_; rintro e w' ⟨rfl, rfl⟩) | (go_at_call 91; refine (digit_any _ _).mono ?_; rintro e w' ⟨rfl, rfl⟩))
                go_round
                case rel => exact ⟨k + 1, by omega, by go_num, Hnx.out⟩
                case measure => simp [intOf]; omega
          · go_wp2
            go_ret
            obtain rfl : k = s.size := by omega
            have h := Hall.out
            rw [take_all] at h
            exact ⟨ret_bool (isName_yes hpos h12 Hf.out h).symm, rfl⟩
    · go_enter Tryz.func70, Tryz.ntmps70
      go_wp2
      go_ret
      exact ⟨ret_bool (isName_no (.inr (by omega))).symm, rfl⟩
end Go.Proofs.YtndfhmphlomeiaaGreatDoor
/- Affixes: l04Letters, l04Affix, ValidAffix; cut, join, matches and what the reference has for them. Conditions: the readings; MaxLen's cell where the program asks strings.ReplaceAll. -/
namespace Go.Proofs.YtndfhmphlomeiaaGreatDoor
open Go.RowKit
theorem drewN_twoG (w : World) (a b : Nat) : (w.drewN a).drewN b = w.drewN (a + b) := World.drewN_drewN w a b
theorem quiet_drew {P : Program} {f : FuncId} {args : Array Value} {w : World} {n : Nat} {v : Value}
    (h : Calls P f args (w.drewN n) fun e w' => e = .returned v ∧ ∃ q, w' = (w.drewN n).drewN q) : Calls P f args (w.drewN n) fun e w'' => e = .returned v ∧ ∃ m, w'' = w.drewN m :=
  h.mono fun _ _ ⟨he, q, hm⟩ => ⟨he, n + q, by rw [hm, drewN_twoG]⟩
/-- An affix in a box. -/
structure AffBox (w : World) (g : Nat) (x : AffD) : Prop where
  c0 : w.cell? ⟨g, 0, none⟩ = some (.string x.name)
  c1 : w.cell? ⟨g, 1, none⟩ = some (.bool x.front)
  c2 : w.cell? ⟨g, 2, none⟩ = some (.string x.cond)
  c3 : w.cell? ⟨g, 3, none⟩ = some (.string x.strip)
  c4 : w.cell? ⟨g, 4, none⟩ = some (.string x.add)
  l : AffLim x maxLen
theorem AffBox.below {w w' : World} {g x} (h : AffBox w g x) (hb : Below w.heap.size w w') : AffBox w' g x :=
  ⟨cell_below hb h.c0, cell_below hb h.c1, cell_below hb h.c2, cell_below hb h.c3, cell_below hb h.c4, h.l⟩
theorem AffBox.drewN {w : World} {g x} (h : AffBox w g x) (q : Nat) : AffBox (w.drewN q) g x := h.below (below_drewN (Below.refl _ _) q)
theorem AffR.box {w : World} {v : Value} {x : AffD} (h : AffR w v x) (t : TypeId) : AffBox (w.alloc (.cells #[.string x.name, .bool x.front, .string x.cond, .string x.strip, .string x.add] t)) w.heap.size x :=
  ⟨cell_newi w _ t 0 _ rfl, cell_newi w _ t 1 _ rfl, cell_newi w _ t 2 _ rfl, cell_newi w _ t 3 _ rfl, cell_newi w _ t 4 _ rfl, h.2⟩
theorem AffBox.read {w : World} {g x} (h : AffBox w g x) : AffR w (.agg #[.string x.name, .bool x.front, .string x.cond, .string x.strip, .string x.add]) x := ⟨rfl, h.l⟩
/-- At most four letters, or letters and periods. -/
def letB (l : List UInt8) (d : Bool) : Bool := l.all fun c => smallI c.toNat || (d && decide (c = 46))
def lettersB (s : ByteArray) (d : Bool) : Bool := letB s.data.toList d && decide (s.size ≤ 4)
def affB (x : AffD) : Bool := isName x.name && lettersB x.cond true && lettersB x.strip false && lettersB x.add false && !decide (x.strip = x.add)
theorem letB_false (l : List UInt8) : letB l false = smallAll l := by simp [letB, smallAll]
theorem letB_true (l : List UInt8) : letB l true = wildAll l := by simp [letB, wildAll]
theorem affB_parts {x : AffD} (h : affB x = true) : isName x.name = true ∧ lettersB x.cond true = true ∧ lettersB x.strip false = true ∧ lettersB x.add false = true ∧ x.strip ≠ x.add := by
  simp only [affB, Bool.and_eq_true, Bool.not_eq_true', decide_eq_false_iff_not] at h
  exact ⟨h.1.1.1.1, h.1.1.1.2, h.1.1.2, h.1.2, h.2⟩
theorem lettersB_le {s : ByteArray} {d : Bool} (h : lettersB s d = true) : s.size ≤ 4 := by
  simp only [lettersB, Bool.and_eq_true, decide_eq_true_eq] at h; exact h.2
theorem letB_step {s : ByteArray} {d : Bool} {k : Nat} (hk : k < s.size) (h : letB (s.data.toList.take k) d = true) (h2 : (smallI s[k].toNat || (d && decide (s[k] = 46))) = true) : letB (s.data.toList.take (k + 1)) d = true := by
  unfold letB at h ⊢
  rw [all_take_succ _ s k hk, h, h2]; rfl
theorem letB_stop {s : ByteArray} {d : Bool} {k : Nat} (hk : k < s.size) (h2 : (smallI s[k].toNat || (d && decide (s[k] = 46))) = false) : false = lettersB s d := by
  unfold lettersB letB
  rw [all_of_take _ s k hk h2]; rfl
theorem letB_end {s : ByteArray} {d : Bool} {k : Nat} (hk : k ≤ s.size) (hn : ¬ k < s.size) (h : letB (s.data.toList.take k) d = true) : decide ((s.size : Int) ≤ 4) = lettersB s d := by
  obtain rfl : k = s.size := by omega
  rw [take_all] at h
  rw [lettersB, h, Bool.true_and]
  exact decide_eq_decide.2 (by omega)
theorem is46 {b : UInt8} (h : ((b.toNat : Int) == 46) = true) : b = 46 := by
  have := eq_of_beq h
  apply UInt8.toNat_inj.1
  show b.toNat = 46
  omega
theorem not46 {b : UInt8} (h : ((b.toNat : Int) == 46) = false) : b ≠ 46 := by
  rintro rfl
  exact absurd h (by decide)
set_option maxHeartbeats 1000000 in
theorem l04Letters_false (s : ByteArray) (w : World) (hs : s.size ≤ maxLen) :
    Calls Tryz.prog 82 #[.string s, .bool false] w fun e w' => e = .returned (.bool (lettersB s false)) ∧ w = w' := by
  unfold maxLen at hs
  go_enter Tryz.func82, Tryz.ntmps82
  go_wp2
  go_loopw [5] (fun i wr => ∃ k : Nat, k ≤ s.size ∧ i = .int .i64 (k : Int) ∧ Hid (letB (s.data.toList.take k) false = true) ∧ wr = w) (fun i _ => s.size - (intOf i).toNat)
  case atStart => exact ⟨0, by omega, rfl, Lib.hid rfl, rfl⟩
  case round =>
    obtain ⟨k, hk, rfl, Hl, rfl⟩ := hrel
    by_cases hlt : k < s.size
    · have hltI : (k : Int) < (s.size : Int) := by omega
      have hq := l01Small_any s[k].toNat wr
      cases hsm : smallI s[k].toNat
      · have Hsm := Lib.hid hsm
        simp only [hsm] at hq
        go_wp2_with fail
        refine hq.mono ?_
        rintro e w1 ⟨rfl, rfl⟩
        go_wp2
        go_ret
        exact ⟨ret_bool (letB_stop hlt (by rw [Hsm.out]; rfl)), rfl⟩
      · have Hsm := Lib.hid hsm
        simp only [hsm] at hq
        go_wp2_with fail
        refine hq.mono ?_
        rintro e w1 ⟨rfl, rfl⟩
        go_wp2
        go_roundw
        case rel => exact ⟨k + 1, by omega, by go_num, Lib.hid (letB_step hlt Hl.out (by rw [Hsm.out]; rfl)), trivial⟩
        case measure => simp [intOf]; omega
    · go_wp2
      go_ret
      exact ⟨ret_bool (letB_end hk hlt Hl.out), rfl⟩
set_option maxHeartbeats 1000000 in
theorem l04Letters_true (s : ByteArray) (w : World) (hs : s.size ≤ maxLen) :
    Calls Tryz.prog 82 #[.string s, .bool true] w fun e w' => e = .returned (.bool (lettersB s true)) ∧ w = w' := by
  unfold maxLen at hs
  go_enter Tryz.func82, Tryz.ntmps82
  go_wp2
  go_loopw [5] (fun i wr => ∃ k : Nat, k ≤ s.size ∧ i = .int .i64 (k : Int) ∧ Hid (letB (s.data.toList.take k) true = true) ∧ wr = w) (fun i _ => s.size - (intOf i).toNat)
  case atStart => exact ⟨0, by omega, rfl, Lib.hid rfl, rfl⟩
  case round =>
    obtain ⟨k, hk, rfl, Hl, rfl⟩ := hrel
    by_cases hlt : k < s.size
    · have hltI : (k : Int) < (s.size : Int) := by omega
      have hq := l01Small_any s[k].toNat wr
      cases hsm : smallI s[k].toNat
      · have Hsm := Lib.hid hsm
        simp only [hsm] at hq
        cases hd : (((s[k].toNat : Int)) == 46)
        · have Hd := Lib.hid (not46 hd)
          have hd2 : ((s[k].toNat : Int) != 46) = true := by rw [bne, hd]; rfl
          go_wp2_with fail
          refine hq.mono ?_
          rintro e w1 ⟨rfl, rfl⟩
          go_wp2
          go_ret
          exact ⟨ret_bool (letB_stop hlt (by rw [Hsm.out, decide_eq_false Hd.out]; rfl)), rfl⟩
        · have Hd := Lib.hid (is46 hd)
          have hd2 : ((s[k].toNat : Int) != 46) = false := by rw [bne, hd]; rfl
          go_wp2_with fail
          refine hq.mono ?_
          rintro e w1 ⟨rfl, rfl⟩
          go_wp2
          go_roundw
          case rel => exact ⟨k + 1, by omega, by go_num, Lib.hid (letB_step hlt Hl.out (by rw [decide_eq_true Hd.out, Bool.and_true, Bool.or_true])), trivial⟩
          case measure => simp [intOf]; omega
      · have Hsm := Lib.hid hsm
        simp only [hsm] at hq
        go_wp2_with fail
        refine hq.mono ?_
        rintro e w1 ⟨rfl, rfl⟩
        go_wp2
        go_roundw
        case rel => exact ⟨k + 1, by omega, by go_num, Lib.hid (letB_step hlt Hl.out (by rw [Hsm.out]; rfl)), trivial⟩
        case measure => simp [intOf]; omega
    · go_wp2
      go_ret
      exact ⟨ret_bool (letB_end hk hlt Hl.out), rfl⟩
theorem l04Letters_any {s : ByteArray} {d b : Bool} (hs : s.size ≤ maxLen) (hb : lettersB s d = b) (w : World) :
    Calls Tryz.prog 82 #[.string s, .bool d] w fun e w' => e = .returned (.bool b) ∧ w = w' := by
  subst hb
  cases d
  · exact l04Letters_false s w hs
  · exact l04Letters_true s w hs
theorem specIsName_is {s : ByteArray} {b : Bool} (hs : s.size ≤ maxLen) (hb : isName s = b) (w : World) :
    Calls Tryz.prog 81 #[.string s] w fun e w' => e = .returned (.bool b) ∧ w = w' := by
  subst hb; exact specIsName_any s w hs
attribute [local irreducible] Calls lettersB isName
theorem dots_any (s : ByteArray) (w : World) (hs : s.size ≤ 4) (hm : MaxL w) :
    Calls Tryz.prog 72 #[.string s, .string ⟨#[46]⟩, .string ⟨#[]⟩] w fun e w' => ∃ r : ByteArray, e = .returned (.string r) ∧ smallAll r.data.toList = wildAll s.data.toList ∧ r.size ≤ 4 ∧ Below w.heap.size w w' := by
  obtain ⟨m, hm⟩ := hm
  refine (Tryz.strings_ReplaceAll s ⟨#[46]⟩ ⟨#[]⟩ m w (by omega) hm (by decide) (by show s.size + _ * 0 ≤ _; omega)).mono ?_
  rintro e w' ⟨rfl, hb⟩
  refine ⟨_, rfl, dots_small _, ?_, hb⟩
  show (Lib.replaceAll s.data.toList [46] []).toArray.size ≤ 4
  rw [replaceAll_filter]
  have := List.length_filter_le (fun b : UInt8 => b != 46) s.data.toList
  rw [ba_sz] at this
  simp only [List.size_toArray]
  omega
theorem lettersB_F {s : ByteArray} (h : s.size ≤ 4) : lettersB s false = smallAll s.data.toList := by rw [lettersB, letB_false, decide_eq_true h, Bool.and_true]
theorem lettersB_T {s : ByteArray} (h : s.size ≤ 4) : lettersB s true = wildAll s.data.toList := by rw [lettersB, letB_true, decide_eq_true h, Bool.and_true]
theorem lettersB_big {s : ByteArray} {d : Bool} (h : ¬ s.size ≤ 4) : lettersB s d = false := by rw [lettersB, decide_eq_false h, Bool.and_false]
theorem affB_no1 {x : AffD} (h : isName x.name = false) : false = affB x := by rw [affB, h]; rfl
theorem affB_no2 {x : AffD} (h : lettersB x.cond true = false) : false = affB x := by rw [affB, h]; simp
theorem affB_no3 {x : AffD} (h : lettersB x.strip false = false) : false = affB x := by rw [affB, h]; simp
theorem affB_no4 {x : AffD} (h : lettersB x.add false = false) : false = affB x := by rw [affB, h]; simp
theorem affB_no5 {x : AffD} (h : x.strip = x.add) : false = affB x := by rw [affB, decide_eq_true h]; simp
theorem affB_yes {x : AffD} (h1 : isName x.name = true) (h2 : lettersB x.cond true = true) (h3 : lettersB x.strip false = true) (h4 : lettersB x.add false = true) (h5 : x.strip ≠ x.add) : true = affB x := by
  rw [affB, h1, h2, h3, h4, decide_eq_false h5]; rfl
set_option maxHeartbeats 4000000 in
theorem implValidAffix_any (v : Value) (x : AffD) (w : World) (hv : AffR w v x) (hm : MaxL w) :
    Calls Tryz.prog 48 #[v] w fun e w' => e = .returned (.bool (affB x)) ∧ Below w.heap.size w w' := by
  obtain rfl := hv.1
  have hb0 : Below w.heap.size w (w.alloc (.cells #[.string x.name, .bool x.front, .string x.cond, .string x.strip, .string x.add] 51)) := (Below.refl _ _).alloc (Nat.le_refl _) _
  have HM := Lib.hid (hm.below hb0)
  have c3 := (hv.box 51).c3
  have c4 := (hv.box 51).c4
  obtain ⟨-, l0, l2, l3, l4⟩ := hv
  have L0 := Lib.hid l0
  have L3 := Lib.hid l3
  have L4 := Lib.hid l4
  unfold maxLen at l0 l2 l3 l4
  clear hm
  cases hN : isName x.name
  · have HN := Lib.hid hN
    clear hN
    go_enter Tryz.func48, Tryz.ntmps48
    go_wp2_with fail
    refine (implIsName_any _ _ L0.out).mono ?_
    rw [HN.out]
    rintro e w1 ⟨rfl, rfl⟩
    go_wp2
    go_ret
    exact ⟨ret_bool (affB_no1 HN.out), hb0⟩
  · have HN := Lib.hid hN
    clear hN
    by_cases h2 : x.cond.size ≤ 4
    · by_cases h3 : x.strip.size ≤ 4
      · by_cases h4 : x.add.size ≤ 4
        · cases h5 : (x.strip.toList == x.add.toList)
          · have H5 := Lib.hid (bytes_ne_of h5)
            have H2 := Lib.hid h2
            have H3 := Lib.hid h3
            have H4 := Lib.hid h4
            go_enter Tryz.func48, Tryz.ntmps48
            go_wp2_with fail
            refine (implIsName_any _ _ L0.out).mono ?_
            rw [HN.out]
            rintro e w1 ⟨rfl, rfl⟩
            go_wp2_with fail
            refine (dots_any _ _ H2.out HM.out).mono ?_
            rintro e w2 ⟨r, rfl, hr, hr4, hb2⟩
            have HR := Lib.hid hr
            have hrm : r.size ≤ maxLen := by unfold maxLen; omega
            have HRM := Lib.hid hrm
            have hbb := hb0.trans (hb2.mono hb0.size)
            have d3 := cell_below hb2 c3
            have d4 := cell_below hb2 c4
            clear c3 c4 hb2 hr hb0 hrm
            go_wp2_with fail
            refine (onlySmall_any _ _ HRM.out).mono ?_
            rw [HR.out]
            cases hC : wildAll x.cond.data.toList
            · have HC := Lib.hid hC
              rintro e w3 ⟨rfl, hb3⟩
              have hbb3 := hbb.trans (hb3.mono hbb.size)
              clear hC
              go_wp2
              go_ret
              exact ⟨ret_bool (affB_no2 (by rw [lettersB_T H2.out, HC.out])), hbb3⟩
            · have HC := Lib.hid hC
              rintro e w3 ⟨rfl, hb3⟩
              have hbb3 := hbb.trans (hb3.mono hbb.size)
              have e3 := cell_below hb3 d3
              have e4 := cell_below hb3 d4
              clear hC d3 d4 hbb hb3
              cases hS : smallAll x.strip.data.toList
              all_goals
                have HS := Lib.hid hS
                clear hS
                go_wp2_with fail
                refine (onlySmall_any _ _ L3.out).mono ?_
                rw [HS.out]
                rintro e w4 ⟨rfl, hb4⟩
                have hbb4 := hbb3.trans (hb4.mono hbb3.size)
                have f4 := cell_below hb4 e4
                clear e3 e4 hb4 hbb3
              · go_wp2
                go_ret
                exact ⟨ret_bool (affB_no3 (by rw [lettersB_F H3.out, HS.out])), hbb4⟩
              · go_wp2_with fail
                refine (onlySmall_any _ _ L4.out).mono ?_
                cases hA : smallAll x.add.data.toList
                all_goals
                  have HA := Lib.hid hA
                  clear hA
                  rintro e w5 ⟨rfl, hb5⟩
                  have hbb5 := hbb4.trans (hb5.mono hbb4.size)
                  clear f4 hb5 hbb4
                  go_wp2
                  go_ret
                · exact ⟨ret_bool (affB_no4 (by rw [lettersB_F H4.out, HA.out])), hbb5⟩
                · exact ⟨ret_bool (affB_yes HN.out (by rw [lettersB_T H2.out, HC.out]) (by rw [lettersB_F H3.out, HS.out]) (by rw [lettersB_F H4.out, HA.out]) H5.out), hbb5⟩
          · have H5 := Lib.hid (bytes_eq_of h5)
            go_enter Tryz.func48, Tryz.ntmps48
            go_wp2_with fail
            refine (implIsName_any _ _ L0.out).mono ?_
            rw [HN.out]
            rintro e w1 ⟨rfl, rfl⟩
            go_wp2
            go_ret
            exact ⟨ret_bool (affB_no5 H5.out), hb0⟩
        · have H4 := Lib.hid h4
          go_enter Tryz.func48, Tryz.ntmps48
          go_wp2_with fail
          refine (implIsName_any _ _ L0.out).mono ?_
          rw [HN.out]
          rintro e w1 ⟨rfl, rfl⟩
          go_wp2
          go_ret
          exact ⟨ret_bool (affB_no4 (lettersB_big H4.out)), hb0⟩
      · have H3 := Lib.hid h3
        go_enter Tryz.func48, Tryz.ntmps48
        go_wp2_with fail
        refine (implIsName_any _ _ L0.out).mono ?_
        rw [HN.out]
        rintro e w1 ⟨rfl, rfl⟩
        go_wp2
        go_ret
        exact ⟨ret_bool (affB_no3 (lettersB_big H3.out)), hb0⟩
    · have H2 := Lib.hid h2
      go_enter Tryz.func48, Tryz.ntmps48
      go_wp2_with fail
      refine (implIsName_any _ _ L0.out).mono ?_
      rw [HN.out]
      rintro e w1 ⟨rfl, rfl⟩
      go_wp2
      go_ret
      exact ⟨ret_bool (affB_no2 (lettersB_big H2.out)), hb0⟩
end Go.Proofs.YtndfhmphlomeiaaGreatDoor
/- What the laws on lexicons call: l05Same, SameLexicon, increasing, l05Ok, ValidLexicon, of both sides. No condition but the readings. -/
namespace Go.Proofs.YtndfhmphlomeiaaGreatDoor
open Go.RowKit
set_option maxHeartbeats 400000 in
theorem l05Same_any (a b : Value) (l1 l2 : List ByteArray) (w : World) (ha : Strs w a l1) (hb : Strs w b l2) :
    Calls Tryz.prog 42 #[a, b] w fun e w' => e = .returned (.bool (decide (l1 = l2))) ∧ Below w.heap.size w w' := by
  obtain ⟨a1, c1, rfl, h1, h1', h1c⟩ := ha.shape
  obtain ⟨a2, c2, rfl, h2, h2', h2c⟩ := hb.shape
  clear ha hb
  unfold maxLen at h1' h2'
  by_cases hlen : l1.length = l2.length
  · have Hlen := Lib.hid hlen
    have hl0 : ((l1.length : Int) != (l2.length : Int)) = false := by rw [bne_eq_false_iff_eq]; omega
    clear hlen
    go_enter Tryz.func42, Tryz.ntmps42
    go_wp2
    go_loopw [5] (fun i wr => ∃ k : Nat, k ≤ l1.length ∧ i = .int .i64 k ∧ l1.take k = l2.take k ∧ Below w.heap.size w wr) (fun i _ => l1.length - (intOf i).toNat)
    case atStart => exact ⟨0, Nat.zero_le _, rfl, rfl, Below.refl _ _⟩
    case round =>
      obtain ⟨k, hk, rfl, heq, hbl⟩ := hrel
      have Heq := Lib.hid heq; clear heq
      by_cases hlt : k < l1.length
      · obtain ⟨b1, o1, rfl, hc1, hs1⟩ := h1c k hlt
        obtain ⟨b2, o2, rfl, hc2, hs2⟩ := h2c k (by have := Hlen.out; omega)
        have hw1 : wr.cell? ⟨b1, o1 + k, none⟩ = some (.string l1[k]) := (hbl.cell (cell_lt hc1)).trans hc1
        have hw2 : wr.cell? ⟨b2, o2 + k, none⟩ = some (.string (l2[k]'(by have := Hlen.out; omega))) := (hbl.cell (cell_lt hc2)).trans hc2
        have hlt2 : k < l2.length := by have := Hlen.out; omega
        clear hc1 hc2 h1c h2c hs1 hs2
        cases hd : (l1[k].toList == l2[k].toList)
        · go_wp2
          go_quiet (fail)
          go_wp2
          go_ret
          exact ⟨ret_bool (by rw [eq_comm, decide_eq_false_iff_not]; rintro rfl; exact bytes_ne_of hd rfl), below_drewN hbl _⟩
        · go_wp2
          go_quiet (fail)
          go_wp2
          go_roundw
          case rel => exact ⟨k + 1, by omega, by go_num, take_eq_succ Heq.out hlt hlt2 (bytes_eq_of hd), below_drewN hbl _⟩
          case measure => simp [intOf]; omega
      · go_wp2
        go_ret
        refine ⟨ret_bool ?_, hbl⟩
        rw [eq_comm, decide_eq_true_iff]
        have h := Heq.out
        rwa [List.take_of_length_le (by omega), List.take_of_length_le (by have := Hlen.out; omega)] at h
  · have hl0 : ((l1.length : Int) != (l2.length : Int)) = true := by rw [bne_iff_ne]; omega
    have H := Lib.hid hlen
    clear hlen
    go_enter Tryz.func42, Tryz.ntmps42
    go_wp2
    go_ret
    exact ⟨ret_bool (by rw [eq_comm, decide_eq_false_iff_not]; rintro rfl; exact H.out rfl), Below.refl _ _⟩
theorem equalStr_any (a b : Value) (l1 l2 : List ByteArray) (w : World) (ha : Strs w a l1) (hb : Strs w b l2) :
    Calls Tryz.prog 69 #[a, b] w fun e w' => e = .returned (.bool (decide (l1 = l2))) ∧ ∃ q, w' = w.drewN q := by
  obtain ⟨a1, c1, rfl, h1, h1', h1c⟩ := ha.shape
  obtain ⟨a2, c2, rfl, h2, h2', h2c⟩ := hb.shape
  unfold maxLen at h1' h2'
  by_cases hlen : l1.length = l2.length
  · cases l1 with
    | nil =>
      obtain rfl : l2 = [] := List.eq_nil_of_length_eq_zero hlen.symm
      exact (Tryz.slices_Equal_string_empty a1 a2 c1 0 c2 w (by omega)).mono fun e w' h => ⟨h.1, 0, h.2⟩
    | cons x xs =>
      obtain ⟨b1, o1, rfl, _, _⟩ := h1c 0 (by simp)
      obtain ⟨b2, o2, rfl, _, _⟩ := h2c 0 (by rw [← hlen]; simp)
      refine (Tryz.slices_Equal_string b1 o1 _ c1 b2 o2 _ c2 (x :: xs) l2 w (Nat.le_refl _) (Nat.le_refl _) (by omega) (by omega) ?_ ?_).mono fun e w' h => ⟨?_, h.2⟩
      · intro j hj
        obtain ⟨_, _, he, hc, _⟩ := h1c j hj
        cases he
        rw [hc, List.getD_eq_getElem?_getD, List.getElem?_eq_getElem hj]; rfl
      · intro j hj
        obtain ⟨_, _, he, hc, _⟩ := h2c j hj
        cases he
        rw [hc, List.getD_eq_getElem?_getD, List.getElem?_eq_getElem hj]; rfl
      · rw [h.1, List.take_length, List.take_length]
  · refine (Tryz.slices_Equal_string_lens a1 a2 _ c1 _ c2 w hlen).mono fun e w' h => ⟨?_, 0, h.2⟩
    rw [h.1]
    exact ret_bool (by rw [eq_comm, decide_eq_false_iff_not]; rintro rfl; exact hlen rfl)
/-- The first k are strictly increasing. -/
def IncTo (l : List ByteArray) (k : Nat) : Prop := ∀ i, i + 1 < k → (h : i + 1 < l.length) → Op.bytesLess l[i].toList l[i + 1].toList = true
def incB (l : List ByteArray) : Bool := (List.range (l.length - 1)).all fun i => Op.bytesLess (l.getD i ByteArray.empty).toList (l.getD (i + 1) ByteArray.empty).toList
theorem incB_iff (l : List ByteArray) : incB l = true ↔ IncTo l l.length := by
  simp only [incB, List.all_eq_true, List.mem_range, IncTo]
  constructor
  · intro h i hi h2
    have h3 := h i (by omega)
    rwa [List.getD_eq_getElem?_getD, List.getD_eq_getElem?_getD, List.getElem?_eq_getElem (by omega), List.getElem?_eq_getElem h2] at h3
  · intro h i hi
    have h3 := h i (by omega) (by omega)
    rwa [List.getD_eq_getElem?_getD, List.getD_eq_getElem?_getD, List.getElem?_eq_getElem (by omega), List.getElem?_eq_getElem (show i + 1 < l.length by omega)]
theorem IncTo.succ {l : List ByteArray} {j : Nat} (h : IncTo l (j + 1)) (hj : j + 1 < l.length) (hd : Op.bytesLess l[j].toList l[j + 1].toList = true) : IncTo l (j + 1 + 1) := by
  intro i hi h2
  by_cases he : i = j
  · subst he; exact hd
  · exact h i (by omega) h2
/-- What a valid lexicon is. -/
def lexB (l : List ByteArray) : Bool := decide (l.length ≤ 200) && incB l && l.all isLong
theorem lexB_false_of_inc {l : List ByteArray} {j : Nat} (hj : j + 1 < l.length) (hd : Op.bytesLess l[j].toList l[j + 1].toList = false) : incB l = false := by
  cases h : incB l
  · rfl
  · rw [(incB_iff l).1 h j hj hj] at hd; cases hd
set_option maxHeartbeats 400000 in
theorem increasing_any (v : Value) (l : List ByteArray) (w : World) (hv : Strs w v l) :
    Calls Tryz.prog 74 #[v] w fun e w' => e = .returned (.bool (incB l)) ∧ Below w.heap.size w w' := by
  obtain ⟨a, c, rfl, hl, hc, hcs⟩ := hv.shape
  unfold maxLen at hc
  clear hv
  go_enter Tryz.func74, Tryz.ntmps74
  go_wp2
  go_loopw [3] (fun i wr => ∃ j : Nat, j + 1 ≤ l.length + 1 ∧ i = .int .i64 ((j : Int) + 1) ∧ IncTo l (j + 1) ∧ Below w.heap.size w wr) (fun i _ => l.length + 1 - (intOf i).toNat)
  case atStart => exact ⟨0, by omega, rfl, fun i h _ => by omega, Below.refl _ _⟩
  case round =>
    obtain ⟨j, hj, rfl, hinc, hb⟩ := hrel
    have Hinc := Lib.hid hinc
    clear hinc
    by_cases hlt : j + 1 < l.length
    · obtain ⟨b1, o1, rfl, hc1, hs1⟩ := hcs (j + 1) hlt
      obtain ⟨b2, o2, he2, hc2, hs2⟩ := hcs j (by omega)
      cases he2
      have hw1 : wr.cell? ⟨b1, o1 + (j + 1), none⟩ = some (.string l[j + 1]) := (hb.cell (cell_lt hc1)).trans hc1
      have hw2 : wr.cell? ⟨b1, o1 + j, none⟩ = some (.string l[j]) := (hb.cell (cell_lt hc2)).trans hc2
      clear hcs hc1 hc2
      cases hd : Op.bytesLess l[j].toList l[j + 1].toList
      · have Hd := Lib.hid hd
        go_wp2
        go_quiet (fail)
        go_wp2
        go_ret
        exact ⟨ret_bool (lexB_false_of_inc hlt Hd.out).symm, below_drewN hb _⟩
      · have Hd := Lib.hid hd
        go_wp2
        go_quiet (fail)
        go_wp2
        go_roundw
        case rel => exact ⟨j + 1, by omega, by go_num, Hinc.out.succ hlt Hd.out, below_drewN hb _⟩
        case measure => simp [intOf]; omega
    · go_wp2
      go_ret
      refine ⟨ret_bool (Eq.symm ((incB_iff l).2 fun i h1 h2 => Hinc.out i (by omega) h2)), hb⟩
theorem drewN_two (w : World) (a b : Nat) : (w.drewN a).drewN b = w.drewN (a + b) := World.drewN_drewN w a b
end Go.Proofs.YtndfhmphlomeiaaGreatDoor
/- Splitting a text at a byte: the pure law, l01Split, strings.Split. Conditions: a text of at most 2^20 bytes; MaxLen's cell where the program asks strings.Split. -/
namespace Go.Proofs.YtndfhmphlomeiaaGreatDoor
open Go.RowKit
/-- The parts of a text between bytes c. -/
def splitC (c : UInt8) : List UInt8 → List (List UInt8)
  | [] => [[]]
  | b :: l => if b = c then [] :: splitC c l else match splitC c l with
    | [] => [[b]]
    | p :: ps => (b :: p) :: ps
theorem splitC_none (c : UInt8) : ∀ l : List UInt8, (∀ b ∈ l, b ≠ c) → splitC c l = [l]
  | [], _ => rfl
  | b :: l, h => by
    rw [splitC, if_neg (h b (by simp)), splitC_none c l fun x hx => h x (by simp [hx])]
theorem splitC_app (c : UInt8) : ∀ (p r : List UInt8), (∀ b ∈ p, b ≠ c) → splitC c (p ++ c :: r) = p :: splitC c r
  | [], r, _ => by simp [splitC]
  | b :: p, r, h => by
    rw [List.cons_append, splitC, if_neg (h b (by simp)), splitC_app c p r fun x hx => h x (by simp [hx])]
theorem splitC_ne (c : UInt8) : ∀ l : List UInt8, splitC c l ≠ []
  | [] => by simp [splitC]
  | b :: l => by
    rw [splitC]
    split
    · simp
    · split <;> simp
theorem splitC_snoc (c : UInt8) : ∀ l : List UInt8, splitC c (l ++ [c]) = splitC c l ++ [[]]
  | [] => by simp [splitC]
  | b :: l => by
    rw [List.cons_append, splitC, splitC, splitC_snoc c l]
    by_cases h : b = c
    · simp [h]
    · rw [if_neg h, if_neg h]
      cases hs : splitC c l with
      | nil => exact absurd hs (splitC_ne c l)
      | cons p ps => rfl
theorem splitC_len (c : UInt8) : ∀ l : List UInt8, (splitC c l).length ≤ l.length + 1
  | [] => by simp [splitC]
  | b :: l => by
    have ih := splitC_len c l
    rw [splitC]
    split
    · simp; omega
    · cases hs : splitC c l with
      | nil => simp
      | cons p ps => simp [hs] at ih ⊢; omega
theorem splitC_part (c : UInt8) : ∀ (l : List UInt8), ∀ p ∈ splitC c l, p.length ≤ l.length
  | [], p, h => by simp [splitC] at h; simp [h]
  | b :: l, p, h => by
    have ih := splitC_part c l
    rw [splitC] at h
    split at h
    · rcases List.mem_cons.1 h with rfl | h
      · simp
      · have := ih p h; simp; omega
    · cases hs : splitC c l with
      | nil => exact absurd hs (splitC_ne c l)
      | cons q ps =>
        rw [hs] at h
        rcases List.mem_cons.1 h with rfl | h
        · have := ih q (by simp [hs]); simp; omega
        · have := ih p (by simp [hs, h]); simp; omega
/-- .. as strings. -/
def baL (l : List UInt8) : ByteArray := ⟨l.toArray⟩
theorem baL_data (l : List UInt8) : (baL l).data.toList = l := rfl
theorem baL_of (s : ByteArray) : baL s.data.toList = s := rfl
theorem baL_size (l : List UInt8) : (baL l).size = l.length := by rw [← ba_sz, baL_data]
def splitW (c : UInt8) (s : ByteArray) : List ByteArray := (splitC c s.data.toList).map baL
theorem splitW_len (c : UInt8) (s : ByteArray) : (splitW c s).length ≤ s.size + 1 := by
  unfold splitW; rw [List.length_map]; have := splitC_len c s.data.toList; rwa [ba_sz] at this
theorem splitW_part {c : UInt8} {s p : ByteArray} (h : p ∈ splitW c s) : p.size ≤ s.size := by
  unfold splitW at h
  obtain ⟨l, hl, rfl⟩ := List.mem_map.1 h
  rw [baL_size]
  have := splitC_part c _ l hl
  rwa [ba_sz] at this
theorem splitW_ne (c : UInt8) (s : ByteArray) : 1 ≤ (splitW c s).length := by
  have h := splitC_ne c s.data.toList
  unfold splitW
  rw [List.length_map]
  exact List.length_pos_iff.2 h
theorem ext_mid (s : ByteArray) (a b : Nat) : (s.extract a b).data.toList = (s.data.toList.take b).drop a := by
  rw [ByteArray.data_extract, Array.toList_extract, List.extract_eq_take_drop, List.drop_take]
/-- What stands between from and i, and what is left. -/
theorem splitW_step {c : UInt8} {s : ByteArray} {a i : Nat} (hi : i < s.size) (ha : a ≤ i) (hc : s[i] = c) (hn : ∀ j, a ≤ j → j < i → (h : j < s.size) → s[j] ≠ c) :
    splitW c (s.extract a s.size) = s.extract a i :: splitW c (s.extract (i + 1) s.size) := by
  have hd : s.data.toList.drop a = (s.extract a i).data.toList ++ c :: s.data.toList.drop (i + 1) := by
    rw [ext_mid]
    have hl : i < s.data.toList.length := by rw [ba_sz]; exact hi
    have e1 : s.data.toList = s.data.toList.take i ++ c :: s.data.toList.drop (i + 1) := by
      have := List.drop_eq_getElem_cons hl
      rw [show s.data.toList[i] = c from hc] at this
      rw [← this, List.take_append_drop]
    conv => lhs; rw [e1]
    rw [List.drop_append_of_le_length (by rw [List.length_take]; omega)]
  unfold splitW
  rw [ext_drop, hd, splitC_app]
  · rw [List.map_cons, ext_drop, baL_of]
  · intro b hb
    rw [ext_mid] at hb
    obtain ⟨j, hj, rfl⟩ := List.getElem_of_mem hb
    rw [List.length_drop, List.length_take, ba_sz] at hj
    rw [List.getElem_drop, List.getElem_take]
    exact hn (a + j) (by omega) (by omega) (by omega)
theorem splitW_end {c : UInt8} {s : ByteArray} {a : Nat} (hn : ∀ j, a ≤ j → (h : j < s.size) → s[j] ≠ c) : splitW c (s.extract a s.size) = [s.extract a s.size] := by
  unfold splitW
  rw [splitC_none]
  · rfl
  · intro b hb
    rw [ext_drop] at hb
    obtain ⟨j, hj, rfl⟩ := List.getElem_of_mem hb
    rw [List.length_drop, ba_sz] at hj
    rw [List.getElem_drop]
    exact hn (a + j) (by omega) (by omega)
theorem ext_all (s : ByteArray) : s.extract 0 s.size = s := by
  apply ba_inj; rw [ext_drop]; rfl
/-- The shelf's own parts are these. -/
theorem splitB_is (c : UInt8) : ∀ (n : Nat) (s : ByteArray), s.size ≤ n → Lib.splitB ⟨#[c]⟩ 0 (Lib.countB s ⟨#[c]⟩) s = splitW c s
  | n, s, hn => by
    have hone : (⟨#[c]⟩ : ByteArray).data.toList = [c] := rfl
    have hiB : Lib.indexB s ⟨#[c]⟩ = Lib.indexByte s.data.toList c := by
      show Lib.index s.data.toList [c] = _
      rw [Lib.index_one]
    rcases indexByte_spec s.data.toList c with ⟨h1, h2⟩ | ⟨k, hk, h1, h2, h3⟩
    · have hi : Lib.index s.data.toList [c] = -1 := by rw [Lib.index_one]; exact h1
      have hcB : Lib.countB s ⟨#[c]⟩ = 0 := Lib.count_miss hi
      rw [hcB, Lib.splitB_zero]
      have := splitW_end (c := c) (s := s) (a := 0) (fun j _ hj => h2 j (by rw [ba_sz]; exact hj))
      rw [ext_all] at this
      rw [this]
    · have hi : Lib.index s.data.toList [c] = (k : Int) := by rw [Lib.index_one]; exact h1
      rw [ba_sz] at hk
      have hcB : Lib.countB s ⟨#[c]⟩ = Lib.countB (s.extract (k + 1) s.size) ⟨#[c]⟩ + 1 := by
        show Lib.count s.data.toList [c] = Lib.count (s.extract (k + 1) s.size).data.toList [c] + 1
        rw [Lib.count_hit (by simp) hi, ext_drop]; simp [Nat.add_comm]
      have hnm : ¬ (Lib.indexB s ⟨#[c]⟩ == -1) = true := by rw [hiB, h1]; simp
      have htn : (Lib.indexB s ⟨#[c]⟩).toNat = k := by rw [hiB, h1]; rfl
      rw [hcB, Lib.splitB, if_neg hnm, htn]
      have hz : (s.extract (k + 1) s.size).size < s.size := by rw [ByteArray.size_extract]; omega
      match n, hn with
      | 0, hn => omega
      | n + 1, hn =>
        have ih := splitB_is c n (s.extract (k + 1) s.size) (by omega)
        have hs1 : (⟨#[c]⟩ : ByteArray).size = 1 := rfl
        have hst := splitW_step (c := c) (s := s) (a := 0) (i := k) hk (Nat.zero_le _) h2 (fun j _ hj h => h3 j hj)
        rw [ext_all] at hst
        rw [hs1, ih, hst, Nat.add_zero]
attribute [local irreducible] Calls
theorem split_any (s : ByteArray) (c : UInt8) (w : World) (hs : s.size ≤ 1048576) (hm : MaxL w) :
    Calls Tryz.prog 26 #[.string s, .string ⟨#[c]⟩] w fun e w' => ∃ v', e = .returned v' ∧ StrsW w' w.heap.size w'.heap.size v' (splitW c s) ∧ Below w.heap.size w w' := by
  obtain ⟨m, hm⟩ := hm
  refine (Tryz.strings_Split s ⟨#[c]⟩ m w (by omega) hm (Nat.le_refl _)).mono ?_
  rintro e w' ⟨rfl, rfl⟩
  have hl : Lib.countB s ⟨#[c]⟩ + 1 = (splitW c s).length := by
    rw [← splitB_is c s.size s (Nat.le_refl _)]
    exact (Lib.splitB_all ⟨#[c]⟩ (Nat.le_refl _) 0 _ s rfl).symm
  have hle := splitW_len c s
  refine ⟨_, rfl, ⟨⟨by simp, some ⟨w.heap.size, 0, none⟩, _, by rw [hl], Nat.le_refl _, by unfold maxLen; omega, .inr ⟨w.heap.size, 0, _, rfl, Nat.le_refl _, by simp, heap_alloc_new w _, ?_, ?_⟩⟩, ?_⟩, (Below.refl _ _).alloc (Nat.le_refl _) _⟩
  · rw [splitB_is c s.size s (Nat.le_refl _)]; simp
  · rw [splitB_is c s.size s (Nat.le_refl _)]; simp; exact List.take_of_length_le (by simp)
  · intro p hp; have := splitW_part hp; unfold maxLen; omega
set_option maxHeartbeats 1000000 in
theorem l01Split_any (s : ByteArray) (z : Int) (c : UInt8) (w : World) (hz : z = (c.toNat : Int)) (hs : s.size ≤ 1048576) :
    Calls Tryz.prog 32 #[.string s, .int .u8 z] w fun e w' => ∃ v', e = .returned v' ∧ StrsW w' w.heap.size w'.heap.size v' (splitW c s) ∧ Below w.heap.size w w' := by
  subst hz
  go_enter Tryz.func32, Tryz.ntmps32
  go_wp2
  have hb0 : Below w.heap.size w (w.alloc (.cells #[] 9)) := (Below.refl _ _).alloc (Nat.le_refl _) _
  have hown0 := OwnS.made w w.heap.size (Nat.le_refl _)
  go_loopw [5, 6, 7] (fun out f i wr => ∃ (a k : Nat) (l : List ByteArray), k ≤ s.size ∧ a ≤ k ∧ f = .int .i64 (a : Int) ∧ i = .int .i64 (k : Int) ∧ OwnS wr w.heap.size out l ∧ l.length ≤ k ∧ Hid (splitW c s = l ++ splitW c (s.extract a s.size)) ∧
    Hid (∀ j, a ≤ j → j < k → (h : j < s.size) → s[j] ≠ c) ∧ Below w.heap.size w wr) (fun _ _ i _ => s.size - (intOf i).toNat)
  case atStart => exact ⟨0, 0, [], by omega, by omega, rfl, rfl, hown0, by simp, Lib.hid (by rw [ext_all]; rfl), Lib.hid fun j h1 h2 => by omega, hb0⟩
  case round =>
    obtain ⟨a, k, l, hk, hak, rfl, rfl, hown, hll, Hl, Hn, hb⟩ := hrel
    clear hown0 hb0
    have HB := Lib.hid hb
    have hbs := hb.size
    clear hb
    by_cases hlt : k < s.size
    · have hltI : (k : Int) < (s.size : Int) := by omega
      have hkI : (a : Int) ≤ (k : Int) := by omega
      cases hd : ((s[k].toNat : Int) == (c.toNat : Int))
      · have Hd := Lib.hid (show s[k] ≠ c by rintro e; rw [e] at hd; simp at hd)
        go_wp2
        go_roundw
        case rel =>
          refine ⟨a, k + 1, l, by omega, by omega, rfl, by go_num, hown, by omega, Hl, Lib.hid fun j h1 h2 h => ?_, HB.out⟩
          rcases Nat.lt_succ_iff_lt_or_eq.1 h2 with h3 | rfl
          · exact Hn.out j h1 h3 h
          · exact Hd.out
        case measure => simp [intOf]; omega
      · have Hd := Lib.hid (show s[k] = c from UInt8.toNat_inj.1 (by have := eq_of_beq hd; omega))
        have Hst := Lib.hid (splitW_step hlt hak Hd.out Hn.out)
        have Hown := Lib.hid hown
        clear hown
        go_wp2_with (at_builtin; refine app_str rfl _ _ rfl w.heap.size _ _ rfl Hown.out (s.extract a k) rfl (by omega) hbs ?_; intro g cap w2 hown2 hbel2 _)
        go_roundw
        case rel => exact ⟨k + 1, k + 1, l ++ [s.extract a k], by omega, by omega, by go_num, by go_num, by simpa [OwnS] using hown2, by simp; omega, Lib.hid (by rw [Hl.out, Hst.out]; simp), Lib.hid fun j h1 h2 => by omega, hbel2 _ HB.out⟩
        case measure => simp [intOf]; omega
    · have hkI : (a : Int) ≤ (s.size : Int) := by omega
      have Hend := Lib.hid (splitW_end (c := c) (s := s) (a := a) fun j h1 h => Hn.out j h1 (by omega) h)
      have Hown := Lib.hid hown
      clear hown
      go_wp2_with (at_builtin; refine app_str rfl _ _ rfl w.heap.size _ _ rfl Hown.out (s.extract a s.size) rfl (by omega) hbs ?_; intro g cap w2 hown2 hbel2 _)
      go_ret
      have hown3 : OwnS w2 w.heap.size (.slice (some ⟨g, 0, none⟩) (l.length + 1) cap) (splitW c s) := by rw [Hl.out, Hend.out]; exact hown2
      exact ⟨_, rfl, hown3.strs (fun p hp => by have := splitW_part hp; unfold maxLen; omega), hbel2 _ HB.out⟩
end Go.Proofs.YtndfhmphlomeiaaGreatDoor
/- ReadLexicon of both sides; linesOf. Conditions: a text of at most 2^20 bytes; MaxLen's cell. -/
namespace Go.Proofs.YtndfhmphlomeiaaGreatDoor
open Go.RowKit
theorem splitC_last (c : UInt8) : ∀ l : List UInt8, (splitC c l).getLast? = some [] → l = [] ∨ l.getLast? = some c
  | [], _ => .inl rfl
  | b :: l, h => by
    right
    rw [splitC] at h
    have hne := splitC_ne c l
    have key : l = [] ∨ l.getLast? = some c → (b = c ∨ l ≠ []) → (b :: l).getLast? = some c := by
      rintro (rfl | h1) h2
      · rcases h2 with rfl | h2
        · rfl
        · exact absurd rfl h2
      · cases l with
        | nil => simp at h1
        | cons x l => rw [List.getLast?_cons_cons]; exact h1
    by_cases hb : b = c
    · rw [if_pos hb] at h
      have h2 : (splitC c l).getLast? = some [] := by
        cases hs : splitC c l with
        | nil => exact absurd hs hne
        | cons p ps => rw [hs, List.getLast?_cons_cons] at h; exact h
      exact key (splitC_last c l h2) (.inl hb)
    · rw [if_neg hb] at h
      cases hs : splitC c l with
      | nil => exact absurd hs hne
      | cons p ps =>
        rw [hs] at h
        cases ps with
        | nil => simp at h
        | cons q ps =>
          simp only [List.getLast?_cons_cons] at h
          have h2 : (splitC c l).getLast? = some [] := by rw [hs, List.getLast?_cons_cons]; exact h
          refine key (splitC_last c l h2) (.inr ?_)
          rintro rfl
          simp [splitC] at hs
theorem splitW_snoc (c : UInt8) (s : ByteArray) (h : finP ⟨#[c]⟩ s = true) : splitW c s = splitW c (s.extract 0 (s.size - 1)) ++ [ByteArray.empty] := by
  obtain ⟨h1, h2⟩ := finP_iff.1 h
  have h1' : 1 ≤ s.size := h1
  have h2' : (s.extract (s.size - 1) s.size).data.toList = [c] := by
    have : s.extract (s.size - 1) s.size = (⟨#[c]⟩ : ByteArray) := h2
    rw [this]
  rw [ext_drop] at h2'
  have e : s.data.toList = (s.extract 0 (s.size - 1)).data.toList ++ [c] := by
    rw [ext_take, ← h2', List.take_append_drop]
  unfold splitW
  rw [e, splitC_snoc, List.map_append]
  rfl
theorem splitW_last {c : UInt8} {s : ByteArray} (h : finP ⟨#[c]⟩ s = false) (hs : 0 < s.size) : (splitW c s).getLast? ≠ some ByteArray.empty := by
  intro hl
  unfold splitW at hl
  rw [List.getLast?_map] at hl
  obtain ⟨p, hp, he⟩ := Option.map_eq_some_iff.1 hl
  have hp0 : p = [] := by
    have := congrArg (fun b : ByteArray => b.data.toList) he
    simpa [baL] using this
  rw [hp0] at hp
  rcases splitC_last c _ hp with h0 | h0
  · have := ba_sz s; rw [h0] at this; simp at this; omega
  · have hf : finP ⟨#[c]⟩ s = true := by
      unfold finP Lib.hasSuffix
      rw [List.isSuffixOf_iff_suffix]
      obtain ⟨t, ht⟩ := List.getLast?_eq_some_iff.1 h0
      exact ⟨t, ht.symm⟩
    rw [h] at hf; cases hf
/-- ReadLexicon: the words, and whether the text is a lexicon's. -/
def rlB (s : ByteArray) : Bool := decide ((splitW 10 s).getLast? = some ByteArray.empty) && lexB (splitW 10 s).dropLast
theorem split_parts (c : UInt8) (s : ByteArray) : ∃ ps z, splitW c s = ps ++ [z] := by
  have h := splitW_ne c s
  have hne : splitW c s ≠ [] := by intro e; rw [e] at h; simp at h
  exact ⟨_, _, (List.dropLast_concat_getLast hne).symm⟩
attribute [local irreducible] Calls
def bodyS (s : ByteArray) : ByteArray := if finP ⟨#[10]⟩ s then s.extract 0 (s.size - 1) else s
def linesL (s : ByteArray) : List ByteArray := if s.size = 0 then [] else splitW 10 (bodyS s)
def linesB (s : ByteArray) : Bool := if s.size = 0 then true else finP ⟨#[10]⟩ s
theorem lines_rl (s : ByteArray) : (linesB s && lexB (linesL s)) = rlB s ∧ (linesB s = true → linesL s = (splitW 10 s).dropLast) := by
  unfold linesB linesL bodyS rlB
  by_cases h0 : s.size = 0
  · have e : splitW 10 s = [ByteArray.empty] := by
      rw [size_zero h0]; rfl
    rw [if_pos h0, if_pos h0, e]
    exact ⟨by simp, fun _ => by simp⟩
  · rw [if_neg h0, if_neg h0]
    cases hf : finP ⟨#[10]⟩ s
    · refine ⟨?_, fun h => by simp at h⟩
      rw [decide_eq_false (splitW_last hf (by omega))]; simp
    · rw [splitW_snoc 10 s hf]
      simp
theorem trimS (s : ByteArray) : (⟨(Lib.trimSuffix s.data.toList [10]).toArray⟩ : ByteArray) = bodyS s := by
  unfold bodyS
  apply ba_inj
  show Lib.trimSuffix s.data.toList [10] = _
  unfold Lib.trimSuffix
  have e : finP ⟨#[10]⟩ s = Lib.hasSuffix s.data.toList [10] := rfl
  rw [e]
  split
  · rw [ext_take, ba_sz]; rfl
  · rfl
set_option maxHeartbeats 1000000 in
theorem linesOf_any (s : ByteArray) (w : World) (hs : s.size ≤ 1048576) (hm : MaxL w) :
    Calls Tryz.prog 25 #[.string s] w fun e w' => ∃ v', e = .returned (.tuple #[v', .bool (linesB s)]) ∧ StrsW w' w.heap.size w'.heap.size v' (linesL s) ∧ Below w.heap.size w w' := by
  by_cases h0 : s.size = 0
  · have e1 : linesB s = true := by simp [linesB, h0]
    have e2 : linesL s = [] := by simp [linesL, h0]
    have H1 := Lib.hid e1
    have H2 := Lib.hid e2
    clear e1 e2
    have hz := isEmpty_true h0
    have hz2 : s.toList = [] := by simpa using hz
    clear h0
    go_enter Tryz.func25, Tryz.ntmps25
    go_wp2
    go_ret2
    refine ⟨.slice (some ⟨w.heap.size, 0, none⟩) 0 0, by rw [H1.out]; rfl, ?_, (Below.refl _ _).alloc (Nat.le_refl _) _⟩
    rw [H2.out]
    exact ⟨⟨rfl, _, 0, rfl, Nat.le_refl _, by unfold maxLen; omega, .inl rfl⟩, by simp⟩
  · have e1 : finP ⟨#[10]⟩ s = linesB s := by simp [linesB, h0]
    have e2 : splitW 10 (bodyS s) = linesL s := by simp [linesL, h0]
    have H1 := Lib.hid e1
    have H2 := Lib.hid e2
    have HT := Lib.hid (trimS s)
    have Hsz : Hid ((bodyS s).size ≤ 1048576) := by
      apply Lib.hid
      unfold bodyS
      split
      · rw [ByteArray.size_extract]; omega
      · exact hs
    have hz := isEmpty_false (s := s) (by omega)
    have hz2 : ¬ s.toList = [] := by simpa using hz
    have Hz2 := Lib.hid hz2
    clear e1 e2 h0 hz2
    go_enter Tryz.func25, Tryz.ntmps25
    go_wp2_with fail
    refine (Tryz.strings_CutSuffix s ⟨#[10]⟩ _ (by omega)).mono ?_
    rw [show (⟨(Lib.trimSuffix s.data.toList (⟨#[10]⟩ : ByteArray).data.toList).toArray⟩ : ByteArray) = _ from HT.out, show Lib.hasSuffix s.data.toList (⟨#[10]⟩ : ByteArray).data.toList = linesB s from H1.out]
    rintro e w1 ⟨rfl, rfl⟩
    go_wp2_with fail
    refine (split_any _ 10 _ Hsz.out hm).mono ?_
    rw [H2.out]
    rintro e w2 ⟨v2, rfl, hv2, hb2⟩
    go_wp2
    go_ret2
    exact ⟨_, rfl, hv2, hb2⟩
end Go.Proofs.YtndfhmphlomeiaaGreatDoor
/- Grammars as arguments: szGrammar, toGrammar, eqGrammar, and of their parts. No condition but the readings. -/
namespace Go.Proofs.YtndfhmphlomeiaaGreatDoor
open Go.RowKit
attribute [local irreducible] Calls
end Go.Proofs.YtndfhmphlomeiaaGreatDoor
/- Grammars as arguments: eqGrammar, toGrammar and their parts. No condition but the readings. -/
namespace Go.Proofs.YtndfhmphlomeiaaGreatDoor
open Go.RowKit
attribute [local irreducible] Calls
theorem stemD_eq (x y : StemD) : decide (x = y) = (decide (x.word = y.word) && decide (x.uses = y.uses)) := by
  cases x; cases y; simp
theorem graD_eq (x y : GraD) : decide (x = y) = (decide (x.affixes = y.affixes) && decide (x.stems = y.stems)) := by
  cases x; cases y; simp
theorem SlW.at {w : World} {lo hi e sz g off n c : Nat} {xs : List Value} (h : SlW w lo hi e sz (.slice (some ⟨g, off, none⟩) n c) n xs) {j : Nat} (hj : j < n * sz) : w.cell? ⟨g, off + j, none⟩ = xs[j]? ∧ w.frozen? ⟨g, off + j, none⟩ = false ∧ lo ≤ g ∧ g < hi := by
  obtain ⟨a', c', e', _, _, g', off', rfl, h1, h2, _, h3, h4, _⟩ := h.store hj
  injection e' with e1 e2 e3
  injection e1 with e1
  injection e1 with e4 e5 e6
  subst e4; subst e5; subst e3
  exact ⟨h3, h4, h1, h2⟩
end Go.Proofs.YtndfhmphlomeiaaGreatDoor
/- Grammars as arguments: toGrammar and its parts. No condition but the readings. -/
namespace Go.Proofs.YtndfhmphlomeiaaGreatDoor
open Go.RowKit
def nilA : AffD := ⟨⟨#[]⟩, false, ⟨#[]⟩, ⟨#[]⟩, ⟨#[]⟩⟩
attribute [local irreducible] Calls
theorem store2 {w : World} {g : Nat} {x0 x1 : Value} {t : TypeId} {fr : Nat × Nat} (h : w.heap[g]? = some (.cells #[x0, x1] t fr)) (a b : Value) :
    ((w.setCell ⟨g, 0, none⟩ a).setCell ⟨g, 1, none⟩ b).heap[g]? = some (.cells #[a, b] t fr) ∧ Kept g (g + 1) w ((w.setCell ⟨g, 0, none⟩ a).setCell ⟨g, 1, none⟩ b) ∧ ((w.setCell ⟨g, 0, none⟩ a).setCell ⟨g, 1, none⟩ b).heap.size = w.heap.size := by
  refine ⟨?_, (kept_setCell (Nat.le_refl _) (Nat.lt_succ_self _) _).trans (kept_setCell (Nat.le_refl _) (Nat.lt_succ_self _) _), by simp [World.setCell]⟩
  simp [World.setCell, Array.getElem?_modify, h]
theorem cell_of_heap {w : World} {g i : Nat} {cs : Array Value} {t : TypeId} {v : Value} (h : w.heap[g]? = some (.cells cs t (0, 0))) (hv : cs[i]? = some v) : w.cell? ⟨g, i, none⟩ = some v ∧ w.frozen? ⟨g, i, none⟩ = false := by
  exact ⟨by simp [World.cell?, h, hv], by simp [World.frozen?, h]⟩
theorem set_heap {w : World} {g i : Nat} {cs : Array Value} {t : TypeId} {fr : Nat × Nat} (y : Value) (h : w.heap[g]? = some (.cells cs t fr)) : (w.setCell ⟨g, i, none⟩ y).heap[g]? = some (.cells (cs.setIfInBounds i y) t fr) := by
  simp [World.setCell, Array.getElem?_modify, h]
theorem infoGra : (Tryz.prog.info? 27).map (·.size) = some 2 := by kernel_rfl
end Go.Proofs.YtndfhmphlomeiaaGreatDoor
/- Stems whose lists lie in blocks of their own: readings, what a store and a call turn. No program is walked. -/
namespace Go.Proofs.YtndfhmphlomeiaaGreatDoor
open Go.RowKit
theorem StrsW.exact {w : World} {lo hi : Nat} {v : Value} {l : List ByteArray} (h : StrsW w lo hi v l) (d : Nat) : ∃ g, (g = d ∨ (lo ≤ g ∧ g < hi)) ∧ StrsW w g (g + 1) v l := by
  obtain ⟨⟨h1, a, c, e1, h2, h3, h4⟩, h5⟩ := h
  rcases h4 with h4 | ⟨g, off, cur, e2, h6, h7, h8⟩
  · exact ⟨d, .inl rfl, ⟨h1, a, c, e1, h2, h3, .inl h4⟩, h5⟩
  · exact ⟨g, .inr ⟨h6, h7⟩, ⟨h1, a, c, e1, h2, h3, .inr ⟨g, off, cur, e2, Nat.le_refl _, Nat.lt_succ_self _, h8⟩⟩, h5⟩
theorem AffsW.exact {w : World} {lo hi : Nat} {v : Value} {l : List AffD} (h : AffsW w lo hi v l) (d : Nat) : ∃ g, (g = d ∨ (lo ≤ g ∧ g < hi)) ∧ AffsW w g (g + 1) v l := by
  obtain ⟨⟨h1, a, c, e1, h2, h3, h4⟩, h5⟩ := h
  rcases h4 with h4 | ⟨g, off, cur, e2, h6, h7, h8⟩
  · exact ⟨d, .inl rfl, ⟨h1, a, c, e1, h2, h3, .inl h4⟩, h5⟩
  · exact ⟨g, .inr ⟨h6, h7⟩, ⟨h1, a, c, e1, h2, h3, .inr ⟨g, off, cur, e2, Nat.le_refl _, Nat.lt_succ_self _, h8⟩⟩, h5⟩
theorem SlW.exact {w : World} {lo hi e sz : Nat} {v : Value} {n : Nat} {xs : List Value} (h : SlW w lo hi e sz v n xs) (d : Nat) : ∃ g, (g = d ∨ (lo ≤ g ∧ g < hi)) ∧ SlW w g (g + 1) e sz v n xs := by
  obtain ⟨h1, a, c, e1, h2, h3, h4⟩ := h
  rcases h4 with h4 | ⟨g, off, cur, e2, h6, h7, h8⟩
  · exact ⟨d, .inl rfl, ⟨h1, a, c, e1, h2, h3, .inl h4⟩⟩
  · exact ⟨g, .inr ⟨h6, h7⟩, ⟨h1, a, c, e1, h2, h3, .inr ⟨g, off, cur, e2, Nat.le_refl _, Nat.lt_succ_self _, h8⟩⟩⟩
theorem SlW.own {w : World} {lo hi e sz : Nat} {v : Value} {n : Nat} {xs : List Value} (h : SlW w lo hi e sz v n xs) (hn : 0 < n) : ∃ g off c, v = .slice (some ⟨g, off, none⟩) n c ∧ lo ≤ g ∧ g < hi := by
  obtain ⟨_, a, c, e1, _, _, h4⟩ := h
  rcases h4 with h4 | ⟨g, off, cur, e2, h5, h6, _⟩
  · omega
  · exact ⟨g, off, c, by rw [e1, e2], h5, h6⟩
/-- A row in one block reads on where the block is as it was. -/
theorem SlW.of_block {w w' : World} {b e sz : Nat} {v : Value} {n : Nat} {xs : List Value} (h : SlW w b (b + 1) e sz v n xs) (hb : w'.heap[b]? = w.heap[b]?) : SlW w' b (b + 1) e sz v n xs := by
  obtain ⟨h1, a, c, e1, h2, h3, h4⟩ := h
  refine ⟨h1, a, c, e1, h2, h3, ?_⟩
  rcases h4 with h4 | ⟨g, off, cur, e2, h6, h7, h8, h9⟩
  · exact .inl h4
  · obtain rfl : g = b := by omega
    exact .inr ⟨g, off, cur, e2, h6, h7, hb.trans h8, h9⟩
theorem AffsW.of_block {w w' : World} {b : Nat} {v : Value} {l : List AffD} (h : AffsW w b (b + 1) v l) (hb : w'.heap[b]? = w.heap[b]?) : AffsW w' b (b + 1) v l := ⟨h.1.of_block hb, h.2⟩
/-- Stems (or derivations: a string and a list) in block og, the list of number j in block q j. -/
structure StX (ty : TypeId) (w : World) (og : Nat) (q : Nat → Nat) (us : List Value) (v : Value) (l : List StemD) : Prop where
  len : us.length = l.length
  out : SlW w og (og + 1) ty 2 v l.length ((l.zip us).flatMap stemL)
  word : ∀ x ∈ l, x.word.size ≤ maxLen
  uses : ∀ j (h : j < l.length) (h' : j < us.length), StrsW w (q j) (q j + 1) us[j] l[j].uses
  ne : ∀ j, j < l.length → q j ≠ og
  inj : ∀ i j, i < l.length → j < l.length → q i = q j → i = j
theorem StX.stems {ty : TypeId} {w og q us v l} (h : StX ty w og q us v l) : Stems w v l :=
  ⟨us, h.len, h.out.read, fun j hj hj' => ⟨h.word _ (List.getElem_mem _), (h.uses j hj hj').read⟩⟩
theorem StX.below {ty : TypeId} {w w' : World} {og q us v l} (h : StX ty w og q us v l) (hb : Below w.heap.size w w') : StX ty w' og q us v l :=
  ⟨h.len, h.out.below hb, h.word, fun j hj hj' => (h.uses j hj hj').below hb, h.ne, h.inj⟩
theorem StX.kept {ty : TypeId} {w w' : World} {lo hi og q us v l} (h : StX ty w og q us v l) (hk : Kept lo hi w w') (h1 : og < lo ∨ hi ≤ og) (h2 : ∀ j, j < l.length → q j < lo ∨ hi ≤ q j) : StX ty w' og q us v l :=
  ⟨h.len, h.out.kept hk (by omega), h.word, fun j hj hj' => (h.uses j hj hj').kept hk (by have := h2 j hj; omega), h.ne, h.inj⟩
/-- Where the cells of row j lie. -/
theorem StX.at {ty : TypeId} {w : World} {og q us g off n c l} (h : StX ty w og q us (.slice (some ⟨g, off, none⟩) n c) l) (j : Nat) (hj : j < l.length) :
    g = og ∧ ∃ ua uc, w.cell? ⟨g, off + j * 2, none⟩ = some (.string l[j].word) ∧ w.frozen? ⟨g, off + j * 2, none⟩ = false ∧ w.cell? ⟨g, off + j * 2 + 1, none⟩ = some (.slice ua l[j].uses.length uc) ∧ us[j]? = some (.slice ua l[j].uses.length uc) ∧ StrsW w (q j) (q j + 1) (.slice ua l[j].uses.length uc) l[j].uses ∧ l[j].uses.length ≤ maxLen ∧ uc ≤ maxLen := by
  have hn : n = l.length := by obtain ⟨a, c', e, _⟩ := h.out.2; injection e
  subst hn
  have hj' : j < us.length := by rw [h.len]; exact hj
  have g0 := fun i hi => flat_get stemL 2 stemL_len (l.zip us) j (by simp; omega) i hi
  obtain ⟨a0, f0, hg1, hg2⟩ := h.out.at (j := j * 2 + 0) (by omega)
  obtain ⟨a1, -, -, -⟩ := h.out.at (j := j * 2 + 1) (by omega)
  have hu := h.uses j hj hj'
  obtain ⟨ua, uc, e, h5, h6, -⟩ := hu.read.shape
  rw [g0 0 (by omega)] at a0
  rw [g0 1 (by omega)] at a1
  refine ⟨by omega, ua, uc, ?_, f0, ?_, by rw [List.getElem?_eq_getElem hj', e], e ▸ hu, by omega, h6⟩
  · rw [Nat.add_zero] at a0; rw [a0]; simp [stemL]
  · rw [Nat.add_assoc, a1]; simp [stemL, e]
/-- A grammar whose blocks are apart. -/
def GraX (w : World) (lo hi : Nat) (v : Value) (x : GraD) : Prop := ∃ s1 s2 ab og q us, v = .agg #[s1, s2] ∧ AffsW w ab (ab + 1) s1 x.affixes ∧ StX 59 w og q us s2 x.stems ∧ (lo ≤ ab ∧ ab < hi) ∧ (lo ≤ og ∧ og < hi) ∧ ab ≠ og ∧ ∀ j, j < x.stems.length → lo ≤ q j ∧ q j < hi ∧ q j ≠ ab
theorem GraX.read {w : World} {lo hi v x} (h : GraX w lo hi v x) : GraR w v x := by
  obtain ⟨s1, s2, ab, og, q, us, e, h1, h2, _⟩ := h
  exact ⟨s1, s2, e, h1.read, h2.stems⟩
theorem GraX.below {w w' : World} {lo hi v x} (h : GraX w lo hi v x) (hb : Below w.heap.size w w') : GraX w' lo hi v x := by
  obtain ⟨s1, s2, ab, og, q, us, e, h1, h2, h3⟩ := h
  exact ⟨s1, s2, ab, og, q, us, e, h1.below hb, h2.below hb, h3⟩
theorem GraX.kept {w w' : World} {lo hi lo' hi' v x} (h : GraX w lo hi v x) (hb : Kept lo' hi' w w') (hd : hi ≤ lo' ∨ hi' ≤ lo) : GraX w' lo hi v x := by
  obtain ⟨s1, s2, ab, og, q, us, e, h1, h2, h3, h4, h5, h6⟩ := h
  exact ⟨s1, s2, ab, og, q, us, e, h1.kept hb (by omega), h2.kept hb (by omega) (fun j hj => by have := h6 j hj; omega), h3, h4, h5, h6⟩
theorem GraX.mono {w : World} {lo hi lo' hi' v x} (h : GraX w lo hi v x) (hl : lo' ≤ lo) (hh : hi ≤ hi') : GraX w lo' hi' v x := by
  obtain ⟨s1, s2, ab, og, q, us, e, h1, h2, h3, h4, h5, h6⟩ := h
  exact ⟨s1, s2, ab, og, q, us, e, h1, h2, by omega, by omega, h5, fun j hj => by have := h6 j hj; omega⟩
theorem GraX.shape {w : World} {lo hi v x} (h : GraX w lo hi v x) : ∃ a c b d, v = .agg #[.slice a x.affixes.length c, .slice b x.stems.length d] := h.read.shape
end Go.Proofs.YtndfhmphlomeiaaGreatDoor
/- append(out, list...) of strings, out of any list that reads. Condition: Go's own bound on the bytes of a slice. -/
namespace Go.Proofs.YtndfhmphlomeiaaGreatDoor
open Go.RowKit
set_option maxRecDepth 100000 in
/-- append(out, list...): one arm of a walk. -/
theorem app_lst {ops : Array Oper} {rest : List Oper} {o : Oper} {a : Act} {Q : Exit → Act → World → Prop} {w : World} (hgd : o.guard = none) (s x : Operand)
    (ho : o.op = .call { callee := .builtin .append, args := #[s, x], argTypes := #[35, 35] })
    (B g0 n0 c0 : Nat) (l : List ByteArray) (hn0 : n0 = l.length) (hs : a.eval s = .slice (some ⟨g0, 0, none⟩) n0 c0) (hown : OwnS w B (.slice (some ⟨g0, 0, none⟩) n0 c0) l) (b : Option Addr) (m c : Nat) (l2 : List ByteArray) (hx : a.eval x = .slice b m c) (hr : Strs w (.slice b m c) l2)
    (hn : l.length + l2.length ≤ 4398046511104) (hB : B ≤ w.heap.size) (N : Nat) (hN : N = l.length + l2.length) (L : List ByteArray) (hL : L = l ++ l2)
    (h : ∀ g cap w', OwnS w' B (.slice (some ⟨g, 0, none⟩) N cap) L → w.grownBy w' (some g0) → (g = g0 ∨ w.heap.size ≤ g) → wpList Tryz.prog ops Q rest (a.put o.dst (.slice (some ⟨g, 0, none⟩) N cap)) w') :
    wpList Tryz.prog ops Q (o :: rest) a w := by
  subst hN hL hn0
  obtain ⟨i, hi, hz0, hz1, hz2⟩ := info_parts infoStr
  obtain ⟨b', c', e, hl, hc, hcs⟩ := hr.shape
  injection e with e1 e2 e3
  subst e1 e2 e3
  cases b with
  | none =>
    have hnil : l2 = [] := by
      cases l2 with
      | nil => rfl
      | cons y r => obtain ⟨b, o, e, -⟩ := hcs 0 (by simp); cases e
    subst hnil
    have ht := Tryz.underlying35
    have hrun : (Builtin.append_ #[35, 35] o.type #[.slice (some ⟨g0, 0, none⟩) l.length c0, .slice none 0 c]).run Tryz.prog w = .ok (.slice (some ⟨g0, 0, none⟩) l.length c0) w := by
      obtain ⟨_, hcap, e, hnc, -⟩ := hown.shape
      injection e with e1 e2 e3
      subst e3
      simp [Builtin.append_, run_underlying ht, sizeOf, typeInfo, hi, Builtin.lenOf, Builtin.firstCells, hnc, storeCells]
    have hh := h g0 c0 w (by simpa using hown) ⟨rfl, rfl, rfl, Nat.le_refl _, fun _ _ _ => rfl⟩ (.inl rfl)
    refine wpList_plain hgd fun K hK => ?_
    unfold Oper.wp execOp
    simp only [ho, resolve, invoke, builtin, Sem.run_bind, Sem.run_pure, Result.andThen_ok, List.map_toArray, List.map_cons, List.map_nil, hs, hx]
    rw [show ([] : List ByteArray).length = 0 from rfl, hrun]
    simp only [Result.andThen_ok]
    exact hK _ _ (by simpa using hh)
  | some ad =>
    refine wpList_append_own_at _ hgd s x 35 ho B 9 i (.string ⟨#[]⟩) 1 16 Tryz.underlying35 hi hz0 hz1 hz2 rfl (by decide) _ l.length (l.map Value.string) hs hown ad l2.length c (l2.map Value.string) hx (by simp) (fun j u hj => ?_) ?_ (by unfold maxLen; omega) (by omega) hB ?_
    · rw [List.getElem?_map] at hj
      obtain ⟨y, hy, rfl⟩ := Option.map_eq_some_iff.1 hj
      obtain ⟨hj2, rfl⟩ := List.getElem?_eq_some_iff.1 hy
      obtain ⟨b, off, e, hcell, -⟩ := hcs j hj2
      cases e
      have : (⟨b, off, none⟩ : Addr).add j = ⟨b, off + j, none⟩ := by unfold Addr.add; split <;> simp_all
      rw [this]; exact hcell
    · intro u hu; simp at hu; obtain ⟨y, -, rfl⟩ := hu; rfl
    · intro v' w' hown' hgrow hnil hloc
      obtain ⟨g, cap, rfl⟩ : ∃ g cap, v' = .slice (some ⟨g, 0, none⟩) (l.length + l2.length) cap := by
        rcases hown'.2 with ⟨h1, h0⟩ | ⟨g, cap, cur, hv, _⟩
        · have := (hnil.1 h1).1; simp at this
        · exact ⟨g, cap, hv⟩
      refine h g cap w' ?_ hgrow ?_
      · unfold OwnS
        rw [List.length_append, List.map_append]
        exact hown'
      · rcases hloc with h1 | h1
        · exact .inl (Option.some.inj h1)
        · right
          have e : g = w.heap.size := Option.some.inj h1
          omega
/-- append(out, list...) at a step of a region that draws its order. -/
theorem step_lst {ops : Array Oper} {o : Oper} {a : Act} {K : Act → World → Prop} {Q : Exit → Act → World → Prop} {E : Prop} {w : World} (hgd : o.guard = none) (s x : Operand)
    (ho : o.op = .call { callee := .builtin .append, args := #[s, x], argTypes := #[35, 35] })
    (B g0 n0 c0 : Nat) (l : List ByteArray) (hn0 : n0 = l.length) (hs : a.eval s = .slice (some ⟨g0, 0, none⟩) n0 c0) (hown : OwnS w B (.slice (some ⟨g0, 0, none⟩) n0 c0) l) (b oo m c : Nat) (l2 : List ByteArray) (hm : m = l2.length) (hx : a.eval x = .slice (some ⟨b, oo, none⟩) m c) (hc : ∀ j (h : j < l2.length), w.cell? ⟨b, oo + j, none⟩ = some (.string l2[j]))
    (hn : l.length + l2.length ≤ 4398046511104) (hB : B ≤ w.heap.size) (N : Nat) (hN : N = l.length + l2.length) (L : List ByteArray) (hL : L = l ++ l2)
    (h : ∀ g cap w', OwnS w' B (.slice (some ⟨g, 0, none⟩) N cap) L → w.grownBy w' (some g0) → (g = g0 ∨ w.heap.size ≤ g) → K (a.put o.dst (.slice (some ⟨g, 0, none⟩) N cap)) w') :
    if Region.wanted o (yielded ops a.tmps) = true then Oper.wp Tryz.prog o a w K Q else E := by
  subst hN hL hn0 hm
  have hw : Region.wanted o (yielded ops a.tmps) = true := by simp [Region.wanted, hgd]
  rw [if_pos hw]
  obtain ⟨i, hi, hz0, hz1, hz2⟩ := info_parts infoStr
  obtain ⟨v', w', hr, h2, h3, h4, h5⟩ := run_append_own_at (P := Tryz.prog) w B 35 o.type 9 i (.string ⟨#[]⟩) 1 16 Tryz.underlying35 hi hz0 hz1 hz2 rfl (by decide) _ l.length (l.map Value.string) hown ⟨b, oo, none⟩ l2.length c (l2.map Value.string) (by simp) (fun j u hj => by
    rw [List.getElem?_map] at hj
    obtain ⟨y, hy, rfl⟩ := Option.map_eq_some_iff.1 hj
    obtain ⟨hj2, rfl⟩ := List.getElem?_eq_some_iff.1 hy
    have : (⟨b, oo, none⟩ : Addr).add j = ⟨b, oo + j, none⟩ := by unfold Addr.add; split <;> simp_all
    rw [this]; exact hc j hj2) (fun u hu => by simp at hu; obtain ⟨y, -, rfl⟩ := hu; rfl) (by unfold maxLen; omega) (by omega) hB
  obtain ⟨g, cap, rfl⟩ : ∃ g cap, v' = .slice (some ⟨g, 0, none⟩) (l.length + l2.length) cap := by
    rcases h2.2 with ⟨h1, h0⟩ | ⟨g, cap, cur, hv, _⟩
    · have := (h4.1 h1).1; simp at this
    · exact ⟨g, cap, hv⟩
  unfold Oper.wp execOp
  simp only [ho, resolve, invoke, builtin, Sem.run_bind, Sem.run_pure, Result.andThen_ok, List.map_toArray, List.map_cons, List.map_nil, hs, hx, hr]
  refine h g cap w' ?_ h3 ?_
  · unfold OwnS
    rw [List.length_append, List.map_append]
    exact h2
  · rcases h5 with h1 | h1
    · exact .inl (Option.some.inj h1)
    · right
      have e : g = w.heap.size := Option.some.inj h1
      omega
end Go.Proofs.YtndfhmphlomeiaaGreatDoor
/- Small laws on boxes of structs. No condition. -/
namespace Go.Proofs.YtndfhmphlomeiaaGreatDoor
open Go.RowKit
theorem src_cell {w : World} {g i : Nat} {cs : Array Value} {t : TypeId} {v : Value} (h : w.heap[g]? = some (.cells cs t (0, 0))) (hv : cs[i]? = some v) : w.cell? ⟨g, i, none⟩ = some v ∧ w.frozen? ⟨g, i, none⟩ = false := by
  exact ⟨by simp [World.cell?, h, hv], by simp [World.frozen?, h]⟩
theorem src_set {w : World} {g i : Nat} {cs : Array Value} {t : TypeId} {fr : Nat × Nat} {u : Value} (h : w.heap[g]? = some (.cells cs t fr)) : (w.setCell ⟨g, i, none⟩ u).heap[g]? = some (.cells (cs.setIfInBounds i u) t fr) := by
  simp [World.setCell, Array.getElem?_modify, h]
/-- A struct of five cells, stored. -/
theorem store5 {w : World} {g : Nat} {x0 x1 x2 x3 x4 : Value} {t : TypeId} {fr : Nat × Nat} (h : w.heap[g]? = some (.cells #[x0, x1, x2, x3, x4] t fr)) (a b c d e : Value) :
    (((((w.setCell ⟨g, 0, none⟩ a).setCell ⟨g, 1, none⟩ b).setCell ⟨g, 2, none⟩ c).setCell ⟨g, 3, none⟩ d).setCell ⟨g, 4, none⟩ e).heap[g]? = some (.cells #[a, b, c, d, e] t fr) ∧
    Kept g (g + 1) w (((((w.setCell ⟨g, 0, none⟩ a).setCell ⟨g, 1, none⟩ b).setCell ⟨g, 2, none⟩ c).setCell ⟨g, 3, none⟩ d).setCell ⟨g, 4, none⟩ e) ∧
    (((((w.setCell ⟨g, 0, none⟩ a).setCell ⟨g, 1, none⟩ b).setCell ⟨g, 2, none⟩ c).setCell ⟨g, 3, none⟩ d).setCell ⟨g, 4, none⟩ e).heap.size = w.heap.size := by
  refine ⟨by simpa using src_set (i := 4) (u := e) (src_set (i := 3) (u := d) (src_set (i := 2) (u := c) (src_set (i := 1) (u := b) (src_set (i := 0) (u := a) h)))), ?_, by simp [World.setCell]⟩
  exact ((((kept_setCell (Nat.le_refl _) (Nat.lt_succ_self _) _).trans (kept_setCell (Nat.le_refl _) (Nat.lt_succ_self _) _)).trans (kept_setCell (Nat.le_refl _) (Nat.lt_succ_self _) _)).trans (kept_setCell (Nat.le_refl _) (Nat.lt_succ_self _) _)).trans (kept_setCell (Nat.le_refl _) (Nat.lt_succ_self _) _)
theorem infoAffix : (Tryz.prog.info? 51).map (·.size) = some 5 := by kernel_rfl
theorem results_cell_rowU {P : Program} {fn : Func} {p u : Tmp} {ty : TypeId} (h : fn.results = #[.cell p ty, .tmp u]) (tmps : Array Value) (w : World) (g : Nat) (t : TypeId) (cs : Array Value) (fr : Nat × Nat) (d : TypeDesc)
    (hp : tmps.getD p undef = .pointer (some ⟨g, 0, none⟩)) (hg : w.heap[g]? = some (.cells cs t fr))
    (hu : P.underlying ty = some d) (hd : (match d with | .struct _ | .array _ _ => true | _ => false) = true) (hi : (P.info? ty).map (·.size) = some cs.size) :
    (results fn tmps).run P w = .ok (.tuple #[.agg cs, tmps.getD u undef]) w := by
  rw [results_cell_tmp h, hp]
  have hl := run_loadVar_row w g t ty cs fr d hg hu hd hi
  simp [asAddr, hl, Result.andThen]
end Go.Proofs.YtndfhmphlomeiaaGreatDoor
/- The drawers' source: next, pick, one, text. Condition: few choices so far. -/
namespace Go.Proofs.YtndfhmphlomeiaaGreatDoor
open Go.RowKit
/-- A source in block g: its bytes lie in another block. -/
def SrcW (w : World) (g : Nat) (bs : List UInt8) (k : Nat) : Prop := ∃ a c sd, w.heap[g]? = some (.cells #[.slice a bs.length c, .int .i64 (k : Int), .int .u64 sd] 86 (0, 0)) ∧
  SlR w 1 (.slice a bs.length c) bs.length (bs.map fun b => Value.int .u8 b.toNat) ∧ (bs ≠ [] → ∀ p, a = some p → p.block < g) ∧ bs.length ≤ 5000
theorem SrcW.lt {w : World} {g bs k} (h : SrcW w g bs k) : g < w.heap.size := by obtain ⟨a, c, sd, h, _⟩ := h; exact (Array.getElem?_eq_some_iff.1 h).1
theorem SrcW.below {w w' : World} {g bs k} (h : SrcW w g bs k) (hb : Below w.heap.size w w') : SrcW w' g bs k := by
  have hl := h.lt
  obtain ⟨a, c, sd, h1, h2, h3, h4⟩ := h
  exact ⟨a, c, sd, (hb.block g hl).trans h1, h2.below hb, h3, h4⟩
/-- Blocks behind the source may turn. -/
theorem SrcW.low {w w' : World} {g bs k} (h : SrcW w g bs k) (hb : Below (g + 1) w w') : SrcW w' g bs k := by
  obtain ⟨a, c, sd, h1, h2, h3, h4⟩ := h
  refine ⟨a, c, sd, (hb.block g (Nat.lt_succ_self g)).trans h1, ?_, h3, h4⟩
  obtain ⟨q1, a', c', e, q2, q3, q4⟩ := h2
  injection e with e1 e2 e3
  subst e1; subst e3
  refine ⟨q1, a, c, rfl, q2, q3, fun j u hj => ?_⟩
  obtain ⟨b, off, rfl, hc⟩ := q4 j u hj
  refine ⟨b, off, rfl, ?_⟩
  have hlt : b < g := h3 (by rintro rfl; simp at hj) _ rfl
  rw [hb.cell (p := ⟨b, off + j, none⟩) (by show b < g + 1; omega)]
  exact hc
theorem Kept.set_new {lo hi : Nat} {w w1 : World} {b i : Nat} {u : Value} (h : Kept lo hi w w1) (hb : w.heap.size ≤ b) : Kept lo hi w (w1.setCell ⟨b, i, none⟩ u) :=
  ⟨h.os, h.tape, h.output, by simpa [World.setCell] using h.size, fun k hk ho => (Below.heap_setCell _ _ _ _ (by show k ≠ b; omega)).trans (h.block k hk ho)⟩
theorem cell_newD (w : World) (cs : Array Value) (t : TypeId) (i : Nat) (x : Value) (h : cs[i]? = some x) : (w.alloc (.cells cs t)).cell? ⟨w.heap.size, i, none⟩ = some x := by
  have h2 := heap_alloc_new w (.cells cs t)
  simp only [World.cell?, h2]
  exact h
theorem Kept.then_new {lo hi r s : Nat} {w w1 w2 : World} (h : Kept lo hi w w1) (h2 : Kept r s w1 w2) (hr : w.heap.size ≤ r) : Kept lo hi w w2 :=
  ⟨h2.os.trans h.os, h2.tape.trans h.tape, h2.output.trans h.output, Nat.le_trans h.size h2.size, fun k hk ho => (h2.block k (Nat.lt_of_lt_of_le hk h.size) (.inl (by omega))).trans (h.block k hk ho)⟩
/-- A []string that is built here. -/
theorem strs_built (w : World) (l : List ByteArray) (h : l.length ≤ 1000) (hs : ∀ s ∈ l, s.size ≤ maxLen := by decide) : Strs (w.alloc (.cells (l.map Value.string).toArray 9)) (.slice (some ⟨w.heap.size, 0, none⟩) l.length l.length) l :=
  ⟨⟨by simp, _, _, rfl, Nat.le_refl _, by unfold maxLen; omega, fun j u hj => ⟨_, _, rfl, by
    have := cell_newD w (l.map Value.string).toArray 9 j u (by simpa using hj)
    simpa using this⟩⟩, hs⟩
/-- Where the bytes lie. -/
theorem SlR.set {w : World} {g i : Nat} {u : Value} {sz n : Nat} {a : Option Addr} {c : Nat} {xs : List Value} (h : SlR w sz (.slice a n c) n xs) (hg : xs ≠ [] → ∀ p, a = some p → p.block ≠ g) : SlR (w.setCell ⟨g, i, none⟩ u) sz (.slice a n c) n xs := by
  obtain ⟨h1, a', c', e, h2, h3, h4⟩ := h
  injection e with e1 e2 e3
  subst e1; subst e3
  refine ⟨h1, a, c, rfl, h2, h3, fun j v hj => ?_⟩
  obtain ⟨b, off, rfl, hc⟩ := h4 j v hj
  refine ⟨b, off, rfl, ?_⟩
  have hne := hg (by rintro rfl; simp at hj) _ rfl
  have hb : (w.setCell ⟨g, i, none⟩ u).heap[b]? = w.heap[b]? := Below.heap_setCell _ _ _ _ (by show b ≠ g; exact hne)
  unfold World.cell? at hc ⊢
  rw [show (⟨b, off + j, none⟩ : Addr).block = b from rfl] at hc ⊢
  rw [hb]
  exact hc
theorem cell_keptD {w w' : World} {lo hi : Nat} {a : Addr} {x : Value} (hk : Kept lo hi w w') (h : w.cell? a = some x) (hd : a.block < lo ∨ hi ≤ a.block) : w'.cell? a = some x := by
  have hb := hk.block a.block (World.block_lt_of_cell? _ _ h) hd
  unfold World.cell? at h ⊢; rw [hb]; exact h
theorem and255 (x : Int) : ∃ r : Nat, r ≤ 255 ∧ bits .and .u64 x 255 = (r : Int) := by
  refine ⟨(BitVec.ofInt 64 x).toNat &&& 255, Nat.and_le_right, ?_⟩
  have e : BitVec.ofInt 64 x = BitVec.ofInt 64 (((BitVec.ofInt 64 x).toNat : Nat) : Int) := by rw [BitVec.ofInt_natCast, BitVec.ofNat_toNat, BitVec.setWidth_eq]
  have := bits_and_u64_nat (BitVec.ofInt 64 x).toNat 255 (BitVec.ofInt 64 x).isLt (by omega)
  rw [← this]
  unfold bits
  rw [show IntKind.u64.bits = 64 from rfl, ← e]
  rfl
theorem wrap64_small (r : Nat) (h : r ≤ 255) : wrap64 (r : Int) = (r : Int) := by unfold wrap64; omega
/-- Behind the two stores. -/
theorem SrcW.stored {w : World} {g k : Nat} {bs : List UInt8} (h : SrcW w g bs k) (sd : Int) (q q' : Nat) :
    SrcW ((((w.drewN q).setCell ⟨g, 1, none⟩ (.int .i64 ((k : Int) + 1))).setCell ⟨g, 2, none⟩ (.int .u64 sd)).drewN q') g bs (k + 1) ∧
    Kept g (g + 1) w ((((w.drewN q).setCell ⟨g, 1, none⟩ (.int .i64 ((k : Int) + 1))).setCell ⟨g, 2, none⟩ (.int .u64 sd)).drewN q') := by
  have hd := h.below (below_drewN (Below.refl _ _) q)
  obtain ⟨a, c, sd0, h1, h2, h3, h4⟩ := hd
  constructor
  · have hx : SrcW (((w.drewN q).setCell ⟨g, 1, none⟩ (.int .i64 ((k : Int) + 1))).setCell ⟨g, 2, none⟩ (.int .u64 sd)) g bs (k + 1) :=
      ⟨a, c, sd, by simpa using src_set (i := 2) (u := .int .u64 sd) (src_set (i := 1) (u := .int .i64 ((k : Int) + 1)) h1), (h2.set fun hx p hp => Nat.ne_of_lt (h3 (by rintro rfl; simp at hx) p hp)).set fun hx p hp => Nat.ne_of_lt (h3 (by rintro rfl; simp at hx) p hp), h3, h4⟩
    exact hx.below (below_drewN (Below.refl _ _) q')
  · exact (((Kept.of_below (below_drewN (Below.refl _ _) q)).trans (kept_setCell (Nat.le_refl _) (Nat.lt_succ_self _) _)).trans (kept_setCell (Nat.le_refl _) (Nat.lt_succ_self _) _)).trans (Kept.of_below (below_drewN (Below.refl _ _) q'))
attribute [local irreducible] Calls
theorem l00From_any (v : Value) (bs : List UInt8) (w : World) (hv : SlR w 1 v bs.length (bs.map fun b => Value.int .u8 b.toNat)) (hl : bs.length ≤ 5000) :
    Calls Tryz.prog 19 #[v] w fun e w' => e = .returned (.pointer (some ⟨w.heap.size, 0, none⟩)) ∧ SrcW w' w.heap.size bs 0 ∧ Below w.heap.size w w' := by
  obtain ⟨h1, a, c, rfl, h2, h3, h4⟩ := hv
  go_enter Tryz.func19, Tryz.ntmps19
  have hb : Below w.heap.size w (w.alloc (.cells #[.slice a bs.length c, .int .i64 0, .int .u64 0] 86)) := (Below.refl _ _).alloc (Nat.le_refl _) _
  have hr : SlR w 1 (.slice a bs.length c) bs.length (bs.map fun b => Value.int .u8 b.toNat) := ⟨h1, a, c, rfl, h2, h3, h4⟩
  go_wp2
  go_ret
  refine ⟨rfl, ⟨a, c, 0, heap_alloc_new w _, hr.below hb, fun hne p hp => ?_, hl⟩, hb⟩
  obtain ⟨x, xs, rfl⟩ := List.exists_cons_of_ne_nil hne
  obtain ⟨b, off, e, hc⟩ := h4 0 (.int .u8 x.toNat) (by simp)
  rw [hp] at e
  cases e
  exact cell_lt hc
set_option maxHeartbeats 1000000 in
theorem next_any (g : Nat) (bs : List UInt8) (k : Nat) (w : World) (hs : SrcW w g bs k) (hk : k ≤ 1000000) :
    Calls Tryz.prog 61 #[.pointer (some ⟨g, 0, none⟩)] w fun e w' => ∃ r : Nat, e = .returned (.int .i64 (r : Int)) ∧ r ≤ 255 ∧ SrcW w' g bs (k + 1) ∧ Kept g (g + 1) w w' := by
  have HS := Lib.hid hs
  obtain ⟨a, c, sd, hbox, hcode, hoff, hlen⟩ := hs
  obtain ⟨c0, z0⟩ := src_cell (i := 0) (v := .slice a bs.length c) hbox rfl
  obtain ⟨c1, z1⟩ := src_cell (i := 1) (v := .int .i64 (k : Int)) hbox rfl
  obtain ⟨c2, z2⟩ := src_cell (i := 2) (v := .int .u64 sd) hbox rfl
  by_cases hlt : k < bs.length
  · go_enter Tryz.func61, Tryz.ntmps61
    obtain ⟨b1, o1, rfl, hc1, -⟩ : ∃ b off, a = some ⟨b, off, none⟩ ∧ w.cell? ⟨b, off + k, none⟩ = some (.int .u8 (bs[k].toNat : Int)) ∧ bs.length ≤ c := by
      obtain ⟨_, a', c', e, h2, _, h4⟩ := hcode
      injection e with e1 e2 e3
      subst e1; subst e3
      obtain ⟨b, off, e, hc⟩ := h4 k (.int .u8 (bs[k].toNat : Int)) (by simp [hlt])
      exact ⟨b, off, e, hc, h2⟩
    go_wp2_with fail
    go_quiet (fail)
    go_wp2_with fail
    go_quiet (fail)
    go_wp2_with fail
    go_quiet (fail)
    go_wp2
    go_ret
    obtain ⟨e1, e2⟩ := HS.out.stored _ _ _
    have hr := bs[k].toNat_lt
    exact ⟨bs[k].toNat, ret_int (by unfold wrap64; omega), by omega, e1, e2⟩
  · go_enter Tryz.func61, Tryz.ntmps61
    go_wp2_with fail
    go_quiet (fail)
    go_wp2_with fail
    go_quiet (fail)
    go_wp2
    go_ret
    obtain ⟨e1, e2⟩ := HS.out.stored _ _ _
    obtain ⟨r, hr, he⟩ := and255 (IntKind.u64.wrap (IntKind.u64.wrap (IntKind.u64.wrap (sd * 6364136223846793005)) + 1442695040888963407) / 1099511627776)
    exact ⟨r, ret_int (by rw [he]; exact wrap64_small r hr), hr, e1, e2⟩
set_option maxHeartbeats 1000000 in
theorem pick_any (g : Nat) (bs : List UInt8) (k : Nat) (n : Nat) (z : Int) (w : World) (hs : SrcW w g bs k) (hk : k ≤ 900000) (hz : z = (n : Int)) (hn : n ≤ 200) :
    Calls Tryz.prog 35 #[.pointer (some ⟨g, 0, none⟩), .int .i64 z] w fun e w' => ∃ r k' : Nat, e = .returned (.int .i64 (r : Int)) ∧ (r < n ∨ r = 0) ∧ k' ≤ k + 2 ∧ SrcW w' g bs k' ∧ Kept g (g + 1) w w' := by
  subst hz
  by_cases h1 : n ≤ 1
  · go_enter Tryz.func35, Tryz.ntmps35
    go_wp2
    go_ret
    exact ⟨0, k, rfl, .inr rfl, by omega, hs, Kept.refl _ _ _⟩
  · have h2 : ¬ ((n : Int) ≤ 1) := by omega
    have h3 : ¬ (200 < (n : Int)) := by omega
    have h4 : ¬ ((n : Int) = 0) := by omega
    go_enter Tryz.func35, Tryz.ntmps35
    go_wp2_with fail
    refine (next_any g bs k _ hs (by omega)).mono ?_
    rintro e w1 ⟨r, rfl, hr, hs1, hk1⟩
    go_wp2
    go_ret
    exact ⟨r % n, k + 1, ret_int (by simp), .inl (Nat.mod_lt _ (by omega)), by omega, hs1, hk1⟩
theorem one_any (g : Nat) (bs : List UInt8) (k : Nat) (n : Nat) (z : Int) (w : World) (hs : SrcW w g bs k) (hk : k ≤ 900000) (hz : z = (n : Int)) (hn : n ≤ 200) :
    Calls Tryz.prog 30 #[.pointer (some ⟨g, 0, none⟩), .int .i64 z] w fun e w' => ∃ (r : Bool) (k' : Nat), e = .returned (.bool r) ∧ k' ≤ k + 2 ∧ SrcW w' g bs k' ∧ Kept g (g + 1) w w' := by
  subst hz
  go_enter Tryz.func30, Tryz.ntmps30
  go_wp2_with fail
  refine (pick_any g bs k n _ _ hs hk rfl hn).mono ?_
  rintro e w1 ⟨r, k', rfl, -, hk', hs1, hk1⟩
  go_wp2
  go_ret
  exact ⟨_, k', rfl, hk', hs1, hk1⟩
set_option maxHeartbeats 1000000 in
set_option maxRecDepth 20000 in
theorem text_any (g : Nat) (bs : List UInt8) (k : Nat) (v : Value) (l : List ByteArray) (w : World) (hs : SrcW w g bs k) (hk : k ≤ 900000) (hv : Strs w v l) (hl : 1 ≤ l.length) (hl2 : l.length ≤ 200) (hg : ∀ a n c, v = .slice a n c → ∀ p, a = some p → p.block ≠ g) :
    Calls Tryz.prog 36 #[.pointer (some ⟨g, 0, none⟩), v] w fun e w' => ∃ (s : ByteArray) (k' : Nat), e = .returned (.string s) ∧ s ∈ l ∧ k' ≤ k + 2 ∧ SrcW w' g bs k' ∧ Kept g (g + 1) w w' := by
  obtain ⟨a, c, rfl, h1, h2, hcs⟩ := hv.shape
  have hgp := hg _ _ _ rfl
  unfold maxLen at h2
  clear hg
  go_enter Tryz.func36, Tryz.ntmps36
  go_wp2_with fail
  refine (pick_any g bs k l.length _ _ hs hk rfl hl2).mono ?_
  rintro e w1 ⟨r, k', rfl, hr, hk', hs1, hk1⟩
  have hrl : r < l.length := by omega
  obtain ⟨b, off, rfl, hc, hsz⟩ := hcs r hrl
  have hc1 := cell_keptD hk1 hc (by have := hgp _ rfl; show b < g ∨ g + 1 ≤ b; have : b ≠ g := this; omega)
  clear hcs hv hs
  have HS1 := Lib.hid hs1
  have HK1 := Lib.hid hk1
  clear hs1 hk1 hc
  go_wp2
  go_ret
  exact ⟨l[r], k', rfl, List.getElem_mem _, hk', HS1.out, HK1.out⟩
end Go.Proofs.YtndfhmphlomeiaaGreatDoor
/- Affixes: cut, join, matches, ApplyAffix, UndoAffix, of both sides. Conditions: the readings; strings of at most 2^20 bytes; MaxLen's cell. -/
namespace Go.Proofs.YtndfhmphlomeiaaGreatDoor
open Go.RowKit
/-- The first or the last n bytes; what is left of them; a word put together. -/
def endB (x : AffD) (w : ByteArray) (n : Nat) : ByteArray := if x.front then w.extract 0 n else w.extract (w.size - n) w.size
def restB (x : AffD) (w : ByteArray) (n : Nat) : ByteArray := if x.front then w.extract n w.size else w.extract 0 (w.size - n)
def joinB (x : AffD) (r p : ByteArray) : ByteArray := if x.front then p ++ r else r ++ p
def cutB (x : AffD) (w p : ByteArray) : Bool := if x.front then begP p w else finP p w
theorem cutB_iff {x : AffD} {w p : ByteArray} : cutB x w p = true ↔ p.size ≤ w.size ∧ endB x w p.size = p := by
  unfold cutB endB
  cases x.front
  · exact finP_iff
  · exact begP_iff
theorem cutB_no1 {x : AffD} {w p : ByteArray} (h : ¬ p.size ≤ w.size) : cutB x w p = false := by
  cases hb : cutB x w p
  · rfl
  · exact absurd (cutB_iff.1 hb).1 h
theorem cutB_no2 {x : AffD} {w p : ByteArray} (h : endB x w p.size ≠ p) : cutB x w p = false := by
  cases hb : cutB x w p
  · rfl
  · exact absurd (cutB_iff.1 hb).2 h
def cutR (x : AffD) (w p : ByteArray) : ByteArray := if x.front then ⟨(Lib.trimPrefix w.data.toList p.data.toList).toArray⟩ else ⟨(Lib.trimSuffix w.data.toList p.data.toList).toArray⟩
theorem cutR_yes {x : AffD} {w p : ByteArray} (h : cutB x w p = true) : cutR x w p = restB x w p.size := by
  unfold cutB at h
  unfold cutR restB
  cases hf : x.front
  · simp only [hf, Bool.false_eq_true, if_false] at h ⊢
    apply ba_inj
    show Lib.trimSuffix _ _ = _
    rw [ext_take, Lib.trimSuffix, if_pos (show Lib.hasSuffix _ _ = true from h), ba_sz, ba_sz]
  · simp only [hf, if_true] at h ⊢
    apply ba_inj
    show Lib.trimPrefix _ _ = _
    rw [ext_drop, Lib.trimPrefix, if_pos (show Lib.hasPrefix _ _ = true from h), ba_sz]
theorem endB_size {x : AffD} {w : ByteArray} {n : Nat} (h : n ≤ w.size) : (endB x w n).size = n := by
  unfold endB
  split
  · rw [ByteArray.size_extract]; omega
  · rw [ByteArray.size_extract]; omega
theorem restB_size {x : AffD} {w : ByteArray} {n : Nat} (h : n ≤ w.size) : (restB x w n).size = w.size - n := by
  unfold restB
  split
  · rw [ByteArray.size_extract]; omega
  · rw [ByteArray.size_extract]; omega
theorem joinB_size (x : AffD) (r p : ByteArray) : (joinB x r p).size = r.size + p.size := by
  unfold joinB
  split
  · rw [ByteArray.size_append]; omega
  · rw [ByteArray.size_append]
/-- The first k bytes of a condition hold. -/
def wildTo (c e : ByteArray) (k : Nat) : Prop := ∀ i, i < k → (h : i < c.size) → (h2 : i < e.size) → c[i] = 46 ∨ c[i] = e[i]
noncomputable instance (c e : ByteArray) (k : Nat) : Decidable (wildTo c e k) := Classical.propDecidable _
noncomputable def matB (x : AffD) (w : ByteArray) : Bool := decide (x.cond.size ≤ w.size) && decide (wildTo x.cond (endB x w x.cond.size) x.cond.size) && cutB x w x.strip
theorem matB_short {x : AffD} {w : ByteArray} (h : ¬ x.cond.size ≤ w.size) : false = matB x w := by rw [matB, decide_eq_false h]; rfl
theorem matB_wild {x : AffD} {w : ByteArray} (h : ¬ wildTo x.cond (endB x w x.cond.size) x.cond.size) : false = matB x w := by rw [matB, decide_eq_false h]; simp
theorem matB_cut {x : AffD} {w : ByteArray} {b : Bool} (h1 : x.cond.size ≤ w.size) (h2 : wildTo x.cond (endB x w x.cond.size) x.cond.size) (h3 : cutB x w x.strip = b) : b = matB x w := by rw [matB, decide_eq_true h1, decide_eq_true h2, h3]; rfl
theorem matB_strip {x : AffD} {w : ByteArray} (h : matB x w = true) : cutB x w x.strip = true := by
  simp only [matB, Bool.and_eq_true] at h; exact h.2
theorem wildTo.step {c e : ByteArray} {k : Nat} (h : wildTo c e k) (hk : k < c.size) (hk2 : k < e.size) (h2 : c[k] = 46 ∨ c[k] = e[k]) : wildTo c e (k + 1) := by
  intro i hi h3 h4
  by_cases he : i = k
  · subst he; exact h2
  · exact h i (by omega) h3 h4
theorem matB_at {x : AffD} {s E : ByteArray} {k : Nat} (hE : E = endB x s x.cond.size) (hk : k < x.cond.size) (hk2 : k < E.size) (h1 : x.cond[k] ≠ 46) (h2 : x.cond[k] ≠ E[k]) : false = matB x s := by
  refine matB_wild fun H => ?_
  subst hE
  rcases H k hk hk hk2 with h | h
  · exact h1 h
  · exact h2 h
theorem u8_ne {a b : UInt8} (h : ((a.toNat : Int) == (b.toNat : Int)) = false) : a ≠ b := by
  rintro rfl; simp at h
theorem u8_eq {a b : UInt8} (h : ((a.toNat : Int) == (b.toNat : Int)) = true) : a = b := by
  have := eq_of_beq h
  exact UInt8.toNat_inj.1 (by omega)
def outB (x : AffD) (w : ByteArray) : ByteArray := joinB x (restB x w x.strip.size) x.add
noncomputable def apV (x : AffD) (w : ByteArray) : ByteArray × Int := if matB x w then (if isLong (outB x w) then (outB x w, 0) else (⟨#[]⟩, 2)) else (⟨#[]⟩, 3)
noncomputable def appV (x : AffD) (w : ByteArray) : ByteArray × Int := if affB x then (if isLong w then apV x w else (⟨#[]⟩, 7)) else (⟨#[]⟩, 1)
theorem apV_no {x : AffD} {w : ByteArray} (h : matB x w = false) : apV x w = (⟨#[]⟩, 3) := by simp [apV, h]
theorem apV_far {x : AffD} {w : ByteArray} (h : matB x w = true) (h2 : isLong (outB x w) = false) : apV x w = (⟨#[]⟩, 2) := by simp [apV, h, h2]
theorem apV_yes {x : AffD} {w : ByteArray} (h : matB x w = true) (h2 : isLong (outB x w) = true) : apV x w = (outB x w, 0) := by simp [apV, h, h2]
theorem appV_bad {x : AffD} {w : ByteArray} (h : affB x = false) : appV x w = (⟨#[]⟩, 1) := by simp [appV, h]
theorem appV_short {x : AffD} {w : ByteArray} (h : affB x = true) (h2 : isLong w = false) : appV x w = (⟨#[]⟩, 7) := by simp [appV, h, h2]
theorem appV_ap {x : AffD} {w : ByteArray} (h : affB x = true) (h2 : isLong w = true) : appV x w = apV x w := by simp [appV, h, h2]
theorem isLong_12 {s : ByteArray} (h : isLong s = true) : s.size ≤ 12 := by
  simp only [isLong, isWord, inI, Bool.and_eq_true, decide_eq_true_eq] at h; omega
theorem ret_sb {a b : ByteArray} {c d : Bool} (h : a = b) (h2 : c = d) : Ending.returned (.tuple #[.string a, .bool c]) = .returned (.tuple #[.string b, .bool d]) := by rw [h, h2]
theorem ret_si {b : ByteArray} {m : Int} {r : ByteArray × Int} (h : r = (b, m)) : Ending.returned (.tuple #[.string b, .int .i64 m]) = .returned (.tuple #[.string r.1, .int .i64 r.2]) := by rw [h]
attribute [local irreducible] Calls
theorem cut_any (v : Value) (x : AffD) (s p : ByteArray) (w : World) (hv : AffR w v x) (hs : s.size ≤ maxLen) :
    Calls Tryz.prog 85 #[v, .string s, .string p] w fun e w' => e = .returned (.tuple #[.string (cutR x s p), .bool (cutB x s p)]) ∧ Below w.heap.size w w' := by
  obtain rfl := hv.1
  have hb0 : Below w.heap.size w (w.alloc (.cells #[.string x.name, .bool x.front, .string x.cond, .string x.strip, .string x.add] 51)) := (Below.refl _ _).alloc (Nat.le_refl _) _
  clear hv
  unfold maxLen at hs
  cases hf : x.front
  · have Hf := Lib.hid hf
    rw [hf] at hb0
    clear hf
    go_enter Tryz.func85, Tryz.ntmps85
    go_wp2_with fail
    refine (Tryz.strings_CutSuffix s p _ (by omega)).mono ?_
    rintro e w1 ⟨rfl, rfl⟩
    go_wp2
    go_ret2
    exact ⟨ret_sb (by rw [cutR, Hf.out]; rfl) (by rw [cutB, Hf.out]; rfl), hb0⟩
  · have Hf := Lib.hid hf
    rw [hf] at hb0
    clear hf
    go_enter Tryz.func85, Tryz.ntmps85
    go_wp2_with fail
    refine (Tryz.strings_CutPrefix s p _).mono ?_
    rintro e w1 ⟨rfl, rfl⟩
    go_wp2
    go_ret2
    exact ⟨ret_sb (by rw [cutR, Hf.out]; rfl) (by rw [cutB, Hf.out]; rfl), hb0⟩
theorem join_any (v : Value) (x : AffD) (r p : ByteArray) (w : World) (hv : AffR w v x) (hr : r.size ≤ 1048576) (hp : p.size ≤ 1048576) :
    Calls Tryz.prog 86 #[v, .string r, .string p] w fun e w' => e = .returned (.string (joinB x r p)) ∧ Below w.heap.size w w' := by
  obtain rfl := hv.1
  have hb0 : Below w.heap.size w (w.alloc (.cells #[.string x.name, .bool x.front, .string x.cond, .string x.strip, .string x.add] 51)) := (Below.refl _ _).alloc (Nat.le_refl _) _
  clear hv
  cases hf : x.front
  all_goals
    have Hf := Lib.hid hf
    rw [hf] at hb0
    clear hf
    go_enter Tryz.func86, Tryz.ntmps86
    go_wp2
    go_ret
    exact ⟨ret_str (by rw [joinB, Hf.out]; rfl), hb0⟩
set_option maxHeartbeats 4000000 in
set_option maxRecDepth 20000 in
theorem matches_any (v : Value) (x : AffD) (s : ByteArray) (w : World) (hv : AffR w v x) (hs : s.size ≤ maxLen) :
    Calls Tryz.prog 84 #[v, .string s] w fun e w' => e = .returned (.bool (matB x s)) ∧ Below w.heap.size w w' := by
  obtain rfl := hv.1
  have hb0 : Below w.heap.size w (w.alloc (.cells #[.string x.name, .bool x.front, .string x.cond, .string x.strip, .string x.add] 51)) := (Below.refl _ _).alloc (Nat.le_refl _) _
  have HX := Lib.hid (hv.box 51)
  have hl2 := hv.2.c
  have hl3 := hv.2.s
  have Hs := Lib.hid hs
  unfold maxLen at hl2 hl3 hs
  clear hv
  by_cases hc : x.cond.size ≤ s.size
  · have HC := Lib.hid hc
    have HEs := Lib.hid (endB_size (x := x) hc)
    obtain ⟨E, hE⟩ : ∃ E, E = endB x s x.cond.size := ⟨_, rfl⟩
    have HE := Lib.hid hE
    rw [← hE] at HEs
    clear hE
    have Hd := Lib.hid (show (((s.size : Int)) - (x.cond.size : Int)).toNat = s.size - x.cond.size by omega)
    have hdI : (0 : Int) ≤ (s.size : Int) - (x.cond.size : Int) := by omega
    have HB0 := Lib.hid hb0
    clear hb0
    cases hf : x.front
    all_goals
      have Hf := Lib.hid hf
      rw [hf] at HB0 HX
      go_enter Tryz.func84, Tryz.ntmps84
      go_wp2
      first
        | rw [show s.extract 0 x.cond.size = E by rw [HE.out, endB, Hf.out]; rfl]
        | rw [show s.extract (((s.size : Int)) - (x.cond.size : Int)).toNat s.size = E by rw [Hd.out, HE.out, endB, Hf.out]; rfl]
        | rw [show s.extract (s.size - x.cond.size) s.size = E by rw [HE.out, endB, Hf.out]; rfl]
      go_loopw [6] (fun i wr => ∃ k : Nat, k ≤ x.cond.size ∧ i = .int .i64 (k : Int) ∧ Hid (wildTo x.cond E k) ∧ Hid (AffBox wr w.heap.size x) ∧ Below w.heap.size w wr) (fun i _ => x.cond.size - (intOf i).toNat)
      case atStart => exact ⟨0, by omega, rfl, Lib.hid fun i h => by omega, HX, HB0.out⟩
      case round =>
        obtain ⟨k, hk, rfl, Hl, HXr, hbr⟩ := hrel
        have HB := Lib.hid hbr
        have k0 := HXr.out.c0
        have k1 := HXr.out.c1
        rw [hf] at k1
        have k2 := HXr.out.c2
        have k3 := HXr.out.c3
        have k4 := HXr.out.c4
        clear hbr
        by_cases hlt : k < x.cond.size
        · have hkE : k < E.size := by have := HEs.out; omega
          have hkI : (k : Int) < (x.cond.size : Int) := by omega
          have hkI2 : (k : Int) < (E.size : Int) := by omega
          cases hd : ((x.cond[k].toNat : Int) == 46)
          · have Hd := Lib.hid (not46 hd)
            have hb1 : ((x.cond[k].toNat : Int) != 46) = true := by rw [bne, hd]; rfl
            cases he : ((x.cond[k].toNat : Int) == (E[k].toNat : Int))
            · have He := Lib.hid (u8_ne he)
              have hb2 : ((x.cond[k].toNat : Int) != (E[k].toNat : Int)) = true := by rw [bne, he]; rfl
              go_wp2
              go_quiet (fail)
              go_wp2
              go_ret
              exact ⟨ret_bool (matB_at HE.out hlt hkE Hd.out He.out), below_drewN HB.out nq⟩
            · have He := Lib.hid (u8_eq he)
              have hb2 : ((x.cond[k].toNat : Int) != (E[k].toNat : Int)) = false := by rw [bne, he]; rfl
              go_wp2
              go_quiet (fail)
              go_wp2
              go_roundw
              case rel => exact ⟨k + 1, by omega, by go_num, Lib.hid (Hl.out.step hlt hkE (.inr He.out)), Lib.hid (HXr.out.drewN nq), below_drewN HB.out nq⟩
              case measure => simp [intOf]; omega
          · have Hd := Lib.hid (is46 hd)
            have hb1 : ((x.cond[k].toNat : Int) != 46) = false := by rw [bne, hd]; rfl
            go_wp2
            go_quiet (fail)
            go_wp2
            go_roundw
            case rel => exact ⟨k + 1, by omega, by go_num, Lib.hid (Hl.out.step hlt hkE (.inl Hd.out)), Lib.hid (HXr.out.drewN nq), below_drewN HB.out nq⟩
            case measure => simp [intOf]; omega
        · have hd0 : decide (k < E.size) = false := by rw [decide_eq_false_iff_not]; have := HEs.out; omega
          have HW := Lib.hid (show wildTo x.cond (endB x s x.cond.size) x.cond.size by rw [← HE.out]; obtain rfl : k = x.cond.size := (by omega); exact Hl.out)
          go_wp2_with fail
          refine (cut_any _ x s x.strip _ (by have h := HXr.out.read; rw [hf] at h; exact h) Hs.out).mono ?_
          cases hb : cutB x s x.strip
          all_goals
            have Hb := Lib.hid hb
            rintro e w1 ⟨rfl, hb1⟩
            go_wp2
            go_ret
            exact ⟨ret_bool (matB_cut HC.out HW.out Hb.out), HB.out.trans (hb1.mono HB.out.size)⟩
  · have HC := Lib.hid hc
    go_enter Tryz.func84, Tryz.ntmps84
    go_wp2
    go_ret
    exact ⟨ret_bool (matB_short HC.out), hb0⟩
end Go.Proofs.YtndfhmphlomeiaaGreatDoor
/- An insertion into an ascending list, plainly. No program is walked. -/
namespace Go.Proofs.YtndfhmphlomeiaaGreatDoor
/-- What an insertion comes to. -/
def InsTo (L : List ByteArray) (t : ByteArray) (L2 : List ByteArray) : Prop :=
  (L2 = L ∧ t ∈ L) ∨ ∃ k, k ≤ L.length ∧ L2 = L.take k ++ t :: L.drop k ∧ (∀ x ∈ L.drop k, Op.bytesLess t.toList x.toList = true) ∧ (∀ (h : 0 < k) (h2 : k - 1 < L.length), Op.bytesLess L[k - 1].toList t.toList = true)
theorem InsTo.mem {L L2 : List ByteArray} {t : ByteArray} (h : InsTo L t L2) (x : ByteArray) : x ∈ L2 ↔ x = t ∨ x ∈ L := by
  rcases h with ⟨rfl, h⟩ | ⟨k, hk, rfl, -, -⟩
  · constructor
    · exact .inr
    · rintro (rfl | h2)
      · exact h
      · exact h2
  · rw [List.mem_append, List.mem_cons]
    constructor
    · rintro (h | h | h)
      · exact .inr (List.mem_of_mem_take h)
      · exact .inl h
      · exact .inr (List.mem_of_mem_drop h)
    · rintro (h | h)
      · exact .inr (.inl h)
      · rw [← List.take_append_drop k L, List.mem_append] at h
        rcases h with h | h
        · exact .inl h
        · exact .inr (.inr h)
theorem InsTo.len {L L2 : List ByteArray} {t : ByteArray} (h : InsTo L t L2) : L.length ≤ L2.length ∧ L2.length ≤ L.length + 1 := by
  rcases h with ⟨rfl, h⟩ | ⟨k, hk, rfl, -, -⟩
  · omega
  · simp; omega
end Go.Proofs.YtndfhmphlomeiaaGreatDoor
