/- A tile set that is drawn: it grows in a box of the call's own, a cell at a time; and what is drawn is valid. No program in sight. -/
import Derived.Test.YtinmmbnlflmobaaGreatDoorTr
import Derived.Test.YtinmmbnlflmobaaGreatDoorDr
import Derived.Test.YtinmmbnlflmobaaGreatDoorSt
import Derived.Test.YtinmmbnlflmobaaGreatDoorFtL
import Derived.Deep.AppendLies
namespace Go.Proofs.YtinmmbnlflmobaaGreatDoor
open Go.RowKit
theorem own_frameT {w w' : World} {B e sz : Nat} {v : Value} {n : Nat} {xs : List Value} (h : w.ownsRow B e sz v n xs) (hk : ∀ k, v.ownBlock = some k → w'.heap[k]? = w.heap[k]?) : w'.ownsRow B e sz v n xs := by
  obtain ⟨h1, h2⟩ := h
  refine ⟨h1, ?_⟩
  rcases h2 with h2 | ⟨g, cap, cur, hv, hb, hg, rest⟩
  · exact .inl h2
  · exact .inr ⟨g, cap, cur, hv, hb, (hk g (by rw [hv]; rfl)).trans hg, rest⟩
/-- The box gb holds the parts; the two slices are apart, at B or above. -/
structure TG (w : World) (B gb : Nat) (v1 v2 : Value) (L : ByteArray) (V C : List Int) (bl : Int) : Prop where
  box : w.heap[gb]? = some (.cells #[.string L, v1, v2, .int .i64 bl] 26 (0, 0))
  gbB : gb < B
  o1 : OwnI w B v1 V
  o2 : OwnI w B v2 C
  ap : ∀ k, v1.ownBlock = some k → v2.ownBlock ≠ some k
theorem TG.lt {w B gb v1 v2 L V C bl} (h : TG w B gb v1 v2 L V C bl) : gb < w.heap.size := (Array.getElem?_eq_some_iff.1 h.box).1
theorem TG.frame {w w' : World} {B gb v1 v2 L V C bl} (h : TG w B gb v1 v2 L V C bl) (hk : ∀ k, k < w.heap.size → (k = gb ∨ B ≤ k) → w'.heap[k]? = w.heap[k]?) : TG w' B gb v1 v2 L V C bl :=
  ⟨(hk gb h.lt (.inl rfl)).trans h.box, h.gbB, own_frameT h.o1 fun k e => hk k (World.ownsRow.lt h.o1 k e).2 (.inr (World.ownsRow.lt h.o1 k e).1),
    own_frameT h.o2 fun k e => hk k (World.ownsRow.lt h.o2 k e).2 (.inr (World.ownsRow.lt h.o2 k e).1), h.ap⟩
theorem TG.below {w w' : World} {B gb v1 v2 L V C bl} (h : TG w B gb v1 v2 L V C bl) (hb : Below w.heap.size w w') : TG w' B gb v1 v2 L V C bl := h.frame fun k hk _ => hb.block k hk
theorem TG.kept {w w' : World} {B gb v1 v2 L V C bl g} (h : TG w B gb v1 v2 L V C bl) (hk : Kept g (g + 1) w w') (hg : g < gb) : TG w' B gb v1 v2 L V C bl :=
  h.frame fun k hl hd => hk.block k hl (.inr (by have := h.gbB; omega))
theorem TG.cell {w B gb v1 v2 L V C bl} (h : TG w B gb v1 v2 L V C bl) : (w.cell? ⟨gb, 0, none⟩ = some (.string L) ∧ w.frozen? ⟨gb, 0, none⟩ = false) ∧ (w.cell? ⟨gb, 1, none⟩ = some v1 ∧ w.frozen? ⟨gb, 1, none⟩ = false) ∧
    (w.cell? ⟨gb, 2, none⟩ = some v2 ∧ w.frozen? ⟨gb, 2, none⟩ = false) ∧ (w.cell? ⟨gb, 3, none⟩ = some (.int .i64 bl) ∧ w.frozen? ⟨gb, 3, none⟩ = false) :=
  ⟨box_cell (i := 0) h.box rfl, box_cell (i := 1) h.box rfl, box_cell (i := 2) h.box rfl, box_cell (i := 3) h.box rfl⟩
theorem TG.start {w : World} {B gb : Nat} {bl : Int} (hb : w.heap[gb]? = some (.cells #[.string ⟨#[]⟩, .slice none 0 0, .slice none 0 0, .int .i64 bl] 26 (0, 0))) (hB : gb < B) : TG w B gb (.slice none 0 0) (.slice none 0 0) ⟨#[]⟩ [] [] bl :=
  ⟨hb, hB, OwnI.nil _ _, OwnI.nil _ _, fun k h => by simp [Value.ownBlock] at h⟩
/-- Blocks below B, but gb and g, and what lies outside are as they were. -/
structure KeepD (B gb g : Nat) (w w' : World) : Prop where
  os : w'.os = w.os
  tape : w'.tape = w.tape
  output : w'.output = w.output
  size : w.heap.size ≤ w'.heap.size
  block : ∀ k, k < B → k ≠ gb → k ≠ g → w'.heap[k]? = w.heap[k]?
theorem KeepD.refl (B gb g : Nat) (w : World) : KeepD B gb g w w := ⟨rfl, rfl, rfl, Nat.le_refl _, fun _ _ _ _ => rfl⟩
theorem KeepD.trans {B gb g : Nat} {a b c : World} (h : KeepD B gb g a b) (k : KeepD B gb g b c) : KeepD B gb g a c :=
  ⟨k.os.trans h.os, k.tape.trans h.tape, k.output.trans h.output, Nat.le_trans h.size k.size, fun i hi hn hm => (k.block i hi hn hm).trans (h.block i hi hn hm)⟩
theorem KeepD.of_below {B gb g : Nat} {w w' : World} (h : Below w.heap.size w w') (hB : B ≤ w.heap.size) : KeepD B gb g w w' := ⟨h.os, h.tape, h.output, h.size, fun k hk _ _ => h.block k (by omega)⟩
theorem KeepD.of_kept {B gb g : Nat} {w w' : World} (h : Kept g (g + 1) w w') (hB : B ≤ w.heap.size) : KeepD B gb g w w' := ⟨h.os, h.tape, h.output, h.size, fun k hk _ hn => h.block k (by omega) (by omega)⟩
theorem KeepD.of_set {B gb g i : Nat} {w : World} {u : Value} : KeepD B gb g w (w.setCell ⟨gb, i, none⟩ u) := ⟨rfl, rfl, rfl, by simp [World.setCell], fun k _ hn _ => Below.heap_setCell _ _ _ _ (show k ≠ gb from hn)⟩
theorem KeepD.weak {B gb g : Nat} {w w' : World} (h : KeepD B gb gb w w') : KeepD B gb g w w' := ⟨h.os, h.tape, h.output, h.size, fun k hk hn _ => h.block k hk hn hn⟩
theorem KeepD.low {B gb g : Nat} {w w' : World} (h : KeepD B gb gb w w') (hg : g < gb) (hB : gb < B) : Below (g + 1) w w' := ⟨h.os, h.tape, h.output, h.size, fun k hk => h.block k (by omega) (by omega) (by omega)⟩
theorem KeepD.kept {B gb g : Nat} {w wx wr : World} (h : KeepD B gb g wx wr) (hK : Kept g (g + 1) w wx) (hw : w.heap.size ≤ gb) (hB : gb < B) : Kept g (g + 1) w wr :=
  ⟨h.os.trans hK.os, h.tape.trans hK.tape, h.output.trans hK.output, Nat.le_trans hK.size h.size, fun k hk ho => (h.block k (by omega) (by omega) (by omega)).trans (hK.block k hk ho)⟩
theorem KeepD.src {B gb g : Nat} {w w' : World} {n : Nat} (h : KeepD B gb g w w') (hn : n ≤ B) (hgb : n ≤ gb) : ∀ k, k < n → k ≠ g → w'.heap[k]? = w.heap[k]? := fun k hk hg => h.block k (by omega) (by omega) hg
/-- A store of the letters. -/
theorem TG.letters {w : World} {B gb v1 v2 L V C bl} (h : TG w B gb v1 v2 L V C bl) (L' : ByteArray) : TG (w.setCell ⟨gb, 0, none⟩ (.string L')) B gb v1 v2 L' V C bl :=
  ⟨box_set h.box, h.gbB, own_set h.o1 _ h.gbB, own_set h.o2 _ h.gbB, h.ap⟩
/-- One value more. -/
theorem TG.value {w W w' : World} {B gb v1 v2 L V C bl} (h : TG w B gb v1 v2 L V C bl) (hbW : Below w.heap.size w W) (hB : B ≤ w.heap.size) (n : Int) (gn cap : Nat)
    (hown : w'.ownsRow B 2 1 (.slice (some ⟨gn, 0, none⟩) (V.length + 1) cap) (V.length + 1) (V.map (Value.int .i64) ++ [.int .i64 n])) (hgr : W.grownBy w' v1.ownBlock) (hloc : v1.ownBlock = some gn ∨ gn = W.heap.size) (g : Nat) :
    TG (w'.setCell ⟨gb, 1, none⟩ (.slice (some ⟨gn, 0, none⟩) (V.length + 1) cap)) B gb (.slice (some ⟨gn, 0, none⟩) (V.length + 1) cap) v2 L (V ++ [n]) C bl ∧
      KeepD B gb g w (w'.setCell ⟨gb, 1, none⟩ (.slice (some ⟨gn, 0, none⟩) (V.length + 1) cap)) ∧ (w'.cell? ⟨gb, 1, none⟩ = some v1 ∧ w'.frozen? ⟨gb, 1, none⟩ = false) := by
  have hlow := World.ownsRow.lt h.o1
  have hlow2 := World.ownsRow.lt h.o2
  have hgne : some gb ≠ v1.ownBlock := fun e => by have := (hlow gb e.symm).1; have := h.gbB; omega
  have hgb' := (hgr.block gb (Nat.lt_of_lt_of_le h.lt hbW.size) hgne).trans ((hbW.block gb h.lt).trans h.box)
  have hgn : v1.ownBlock = some gn ∨ w.heap.size ≤ gn := hloc.imp id fun e => by rw [e]; exact hbW.size
  have hgnB : B ≤ gn := by rcases hgn with e | e; exact (hlow gn e).1; omega
  have hfr : ∀ k, k < w.heap.size → some k ≠ v1.ownBlock → k ≠ gb → (w'.setCell ⟨gb, 1, none⟩ (.slice (some ⟨gn, 0, none⟩) (V.length + 1) cap)).heap[k]? = w.heap[k]? := fun k hk h1 h2 => by
    rw [Below.heap_setCell _ _ _ _ (show k ≠ gb from h2), hgr.block k (Nat.lt_of_lt_of_le hk hbW.size) h1, hbW.block k hk]
  refine ⟨⟨box_set hgb', h.gbB, ?_, ?_, fun k hk e => ?_⟩, ⟨hgr.os.trans hbW.os, hgr.tape.trans hbW.tape, hgr.output.trans hbW.output, ?_, fun k hk hn _ => ?_⟩, box_cell (i := 1) hgb' rfl⟩
  · unfold OwnI
    rw [List.length_append, List.map_append]
    exact own_set hown _ h.gbB
  · exact own_frameT h.o2 fun k hk => hfr k (hlow2 k hk).2 (fun e => h.ap k e.symm hk) (by have := (hlow2 k hk).1; have := h.gbB; omega)
  · have hk : gn = k := Option.some.inj hk
    subst hk
    rcases hgn with e2 | e2
    · exact h.ap gn e2 e
    · have := (hlow2 gn e).2; omega
  · have h1 := hbW.size
    have h2 := hgr.size
    simp [World.setCell]; omega
  · exact hfr k (by omega) (fun e => by have := (hlow k e.symm).1; omega) hn
/-- One count more. -/
theorem TG.count {w W w' : World} {B gb v1 v2 L V C bl} (h : TG w B gb v1 v2 L V C bl) (hbW : Below w.heap.size w W) (hB : B ≤ w.heap.size) (n : Int) (gn cap : Nat)
    (hown : w'.ownsRow B 2 1 (.slice (some ⟨gn, 0, none⟩) (C.length + 1) cap) (C.length + 1) (C.map (Value.int .i64) ++ [.int .i64 n])) (hgr : W.grownBy w' v2.ownBlock) (hloc : v2.ownBlock = some gn ∨ gn = W.heap.size) (g : Nat) :
    TG (w'.setCell ⟨gb, 2, none⟩ (.slice (some ⟨gn, 0, none⟩) (C.length + 1) cap)) B gb v1 (.slice (some ⟨gn, 0, none⟩) (C.length + 1) cap) L V (C ++ [n]) bl ∧
      KeepD B gb g w (w'.setCell ⟨gb, 2, none⟩ (.slice (some ⟨gn, 0, none⟩) (C.length + 1) cap)) ∧ (w'.cell? ⟨gb, 2, none⟩ = some v2 ∧ w'.frozen? ⟨gb, 2, none⟩ = false) := by
  have hlow := World.ownsRow.lt h.o2
  have hlow1 := World.ownsRow.lt h.o1
  have hgne : some gb ≠ v2.ownBlock := fun e => by have := (hlow gb e.symm).1; have := h.gbB; omega
  have hgb' := (hgr.block gb (Nat.lt_of_lt_of_le h.lt hbW.size) hgne).trans ((hbW.block gb h.lt).trans h.box)
  have hgn : v2.ownBlock = some gn ∨ w.heap.size ≤ gn := hloc.imp id fun e => by rw [e]; exact hbW.size
  have hgnB : B ≤ gn := by rcases hgn with e | e; exact (hlow gn e).1; omega
  have hfr : ∀ k, k < w.heap.size → some k ≠ v2.ownBlock → k ≠ gb → (w'.setCell ⟨gb, 2, none⟩ (.slice (some ⟨gn, 0, none⟩) (C.length + 1) cap)).heap[k]? = w.heap[k]? := fun k hk h1 h2 => by
    rw [Below.heap_setCell _ _ _ _ (show k ≠ gb from h2), hgr.block k (Nat.lt_of_lt_of_le hk hbW.size) h1, hbW.block k hk]
  refine ⟨⟨box_set hgb', h.gbB, ?_, ?_, fun k hk e => ?_⟩, ⟨hgr.os.trans hbW.os, hgr.tape.trans hbW.tape, hgr.output.trans hbW.output, ?_, fun k hk hn _ => ?_⟩, box_cell (i := 2) hgb' rfl⟩
  · exact own_frameT h.o1 fun k hk => hfr k (hlow1 k hk).2 (fun e => h.ap k hk e.symm) (by have := (hlow1 k hk).1; have := h.gbB; omega)
  · unfold OwnI
    rw [List.length_append, List.map_append]
    exact own_set hown _ h.gbB
  · have e : gn = k := Option.some.inj e
    subst e
    rcases hgn with e2 | e2
    · exact h.ap gn hk e2
    · have := (hlow1 gn hk).2; omega
  · have h1 := hbW.size
    have h2 := hgr.size
    simp [World.setCell]; omega
  · exact hfr k (by omega) (fun e => by have := (hlow k e.symm).1; omega) hn
/-- What has been drawn of the letters below c. -/
structure DrP (L : ByteArray) (V C : List Int) (bl : Int) (c : Nat) : Prop where
  lv : V.length = L.size
  lc : C.length = L.size
  sm : ∀ i, (h : i < L.size) → 97 ≤ L[i].toNat ∧ L[i].toNat < c
  up : ∀ i, (h : i + 1 < L.size) → L[i].toNat < L[i + 1].toNat
  va : ∀ v ∈ V, 0 ≤ v ∧ v ≤ 11
  co : ∀ n ∈ C, 1 ≤ n ∧ n ≤ 4
  n1 : 98 ≤ c → 1 ≤ L.size
  n2 : L.size + 97 ≤ c
  b : 0 ≤ bl ∧ bl ≤ 2
theorem DrP.start {bl : Int} (h : 0 ≤ bl ∧ bl ≤ 2) : DrP ⟨#[]⟩ [] [] bl 97 :=
  ⟨rfl, rfl, fun i h => absurd h (by simp [ByteArray.size]), fun i h => absurd h (by simp [ByteArray.size]), by simp, by simp, by omega, by simp [ByteArray.size], h⟩
theorem DrP.skip {L V C bl c} (h : DrP L V C bl c) (hc : 98 ≤ c) : DrP L V C bl (c + 1) :=
  ⟨h.lv, h.lc, fun i hi => ⟨(h.sm i hi).1, Nat.lt_succ_of_lt (h.sm i hi).2⟩, h.up, h.va, h.co, fun _ => h.n1 hc, by have := h.n2; omega, h.b⟩
theorem one_sizeD (c : UInt8) : (⟨#[c]⟩ : ByteArray).size = 1 := rfl
theorem push_get {L : ByteArray} {c : UInt8} {i : Nat} (h : i < (L ++ ⟨#[c]⟩).size) : (∃ h' : i < L.size, (L ++ ⟨#[c]⟩)[i] = L[i]) ∨ (i = L.size ∧ (L ++ ⟨#[c]⟩)[i] = c) := by
  have hs : (L ++ ⟨#[c]⟩).size = L.size + 1 := by rw [ByteArray.size_append]; rfl
  by_cases h' : i < L.size
  · exact .inl ⟨h', ByteArray.getElem_append_left h'⟩
  · refine .inr ⟨by omega, ?_⟩
    have e : i = L.size := by omega
    subst e
    rw [ByteArray.getElem_append_right (Nat.le_refl _)]
    simp
    rfl
theorem DrP.step {L V C bl c} (h : DrP L V C bl c) (hc : 97 ≤ c) (hc2 : c ≤ 122) (u : UInt8) (hu : u.toNat = c) {v n : Int} (hv : 0 ≤ v ∧ v ≤ 11) (hn : 1 ≤ n ∧ n ≤ 4) : DrP (L ++ ⟨#[u]⟩) (V ++ [v]) (C ++ [n]) bl (c + 1) := by
  have hs : (L ++ ⟨#[u]⟩).size = L.size + 1 := by rw [ByteArray.size_append]; rfl
  refine ⟨by rw [List.length_append, h.lv, hs]; rfl, by rw [List.length_append, h.lc, hs]; rfl, fun i hi => ?_, fun i hi => ?_, fun x hx => ?_, fun x hx => ?_, fun _ => by omega, by rw [hs]; have := h.n2; omega, h.b⟩
  · rcases push_get hi with ⟨h', e⟩ | ⟨-, e⟩
    · rw [e]; have := h.sm i h'; omega
    · rw [e]; omega
  · rcases push_get hi with ⟨h', e⟩ | ⟨h', e⟩
    · rcases push_get (show i < (L ++ ⟨#[u]⟩).size by omega) with ⟨h2, e2⟩ | ⟨h2, -⟩
      · rw [e, e2]; exact h.up i h'
      · omega
    · rcases push_get (show i < (L ++ ⟨#[u]⟩).size by omega) with ⟨h2, e2⟩ | ⟨h2, -⟩
      · rw [e, e2, hu]; exact (h.sm i h2).2
      · omega
  · rcases List.mem_append.1 hx with hx | hx
    · exact h.va x hx
    · rw [List.mem_singleton.1 hx]; exact hv
  · rcases List.mem_append.1 hx with hx | hx
    · exact h.co x hx
    · rw [List.mem_singleton.1 hx]; exact hn
theorem TG.tilW {w B gb v1 v2 L V C bl c lo} (h : TG w B gb v1 v2 L V C bl) (D : DrP L V C bl c) (hc : c ≤ 123 := by omega) (hlo : lo ≤ B := by omega) : TilW w lo w.heap.size (.agg #[.string L, v1, v2, .int .i64 bl]) ⟨L, V, C, bl⟩ :=
  ⟨v1, v2, rfl, by show L.size ≤ maxLen; have := D.n2; unfold maxLen; omega, (h.o1.ints fun s hs => by have := D.va s hs; unfold I64; omega).mono hlo (Nat.le_refl _), (h.o2.ints fun s hs => by have := D.co s hs; unfold I64; omega).mono hlo (Nat.le_refl _), by have := D.b; show I64 bl; unfold I64; omega⟩
theorem TilX.toW {w : World} {lo hi lo' hi' v x} (h : TilX w lo hi v x) (hl : lo' ≤ lo) (hh : hi ≤ hi') : TilW w lo' hi' v x := by
  obtain ⟨s1, s2, g1, g2, e, h0, h1, h2, h3, h4⟩ := h
  exact ⟨s1, s2, e, h0, h1.mono (by omega) (by omega), h2.mono (by omega) (by omega), h3⟩
theorem sum_leD : ∀ l : List Int, (∀ n ∈ l, 1 ≤ n ∧ n ≤ 4) → l.sum ≤ 4 * (l.length : Int)
  | [], _ => by simp
  | a :: l, h => by
    have h1 := sum_leD l fun n hn => h n (List.mem_cons_of_mem _ hn)
    have h2 := h a (List.mem_cons_self ..)
    rw [List.sum_cons, List.length_cons]; omega
theorem DrP.tilP {L V C bl} (h : DrP L V C bl 123) : TilP ⟨L, V, C, bl⟩ := by
  have hs := sum_leD C h.co
  have h1 := h.n2
  have h2 := h.lc
  have h3 := h.b
  refine ⟨h.n1 (by omega), by show L.size ≤ 26; omega, h.lv, h.lc, h3.1, by show bl ≤ 4; omega, fun i hi => ?_, h.up, fun i hi => ?_, fun i hi => ?_, by show bl + C.sum ≤ 120; omega⟩
  · have := h.sm i hi
    simp only [smallI, Bool.and_eq_true, decide_eq_true_eq]
    show 97 ≤ (L[i].toNat : Int) ∧ (L[i].toNat : Int) ≤ 122
    omega
  · have hi' : i < V.length := hi
    have := h.va V[i] (List.getElem_mem hi')
    show 0 ≤ V[i] ∧ V[i] ≤ 20
    omega
  · have hi' : i < C.length := hi
    have := h.co C[i] (List.getElem_mem hi')
    show 1 ≤ C[i] ∧ C[i] ≤ 20
    omega
end Go.Proofs.YtinmmbnlflmobaaGreatDoor
