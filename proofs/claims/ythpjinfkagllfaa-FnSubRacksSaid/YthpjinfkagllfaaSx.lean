/- subsets of the program. Conditions: small counts, at most seven tiles. -/
import Derived.Test.YthpjinfkagllfaaSv
import Derived.Laws.EntriesVeiled
set_option linter.unusedSimpArgs false
namespace Go.Proofs.Ythpjinfkagllfaa
open Go.RowKit
attribute [local irreducible] Calls
set_option maxHeartbeats 8000000 in
set_option maxRecDepth 20000 in
theorem subsets_any (B ob n : Nat) (f : Nat → Int) (yv : Value) (l : List ByteArray) (w : World) (hn : n ≤ 7) (hf : ∀ p, 0 ≤ f p ∧ f p ≤ 2097152) (hl : l.length + (subsC n f 0).length ≤ 4398046511104)
    (ho : w.heap[ob]? = some (.cells #[yv] 22 (0, 0))) (hown : OwnS w B yv l) (hne : yv.ownBlock ≠ some ob) (hB : B ≤ ob) :
    Calls Try.prog 44 #[.agg (cs f), .int .i64 n, visF ob] w fun e w' => e = .returned (.tuple #[]) ∧
      ∃ yv', w'.heap[ob]? = some (.cells #[yv'] 22 (0, 0)) ∧ OwnS w' B yv' (l ++ (subsC n f 0).map mkT) ∧ yv'.ownBlock ≠ some ob ∧ w'.os = w.os ∧ w'.tape = w.tape ∧ w'.output = w.output ∧ w.heap.size ≤ w'.heap.size ∧
        (∀ k, k < w.heap.size → k ≠ ob → yv.ownBlock ≠ some k → w'.heap[k]? = w.heap[k]?) ∧ (∀ k, yv'.ownBlock = some k → yv.ownBlock = some k ∨ w.heap.size ≤ k) := by
  have hmf : ∀ (fn : Fn) (first cap : Array Value) (w : World), (Instr.makeFunc fn first cap).run Try.prog w = .ok (.func fn first cap) w := fun _ _ _ _ => rfl
  have hlt := lt_of_heap ho
  have Ho := Lib.hid ho
  have Hl := Lib.hid hl
  have Hf := Lib.hid hf
  have Hown := Lib.hid hown
  have Hne := Lib.hid hne
  clear ho hl hf hown hne
  have hmk : ∀ w : World, (Instr.makeSlice 30 (.int .i64 0) (.int .i64 (n : Int))).run Try.prog w = .ok (.slice (some ⟨w.heap.size, 0, none⟩) 0 n) (w.alloc (.cells (madeCells #[.int .u8 0] n) 5)) := fun w => by
    obtain ⟨i, hi, hz0, hz1, hz2⟩ := info_parts infoU8
    have h := run_make (P := Try.prog) w 30 5 i (.int .u8 0) Try.underlying30 hi hz0 .i64 .i64 0 (n : Int) (Int.le_refl _) (by omega) (by rw [hz2]; omega) (by omega)
    simpa [hz1, Value.cells] using h
  have hz5 : (((((w.alloc (.cells (cs f) 53)).alloc (.cells #[.int .i64 n] 3)).alloc (.cells #[visF ob] 29)).alloc (.cells (madeCells #[.int .u8 0] n) 5)).alloc (.cells #[.slice (some ⟨w.heap.size + 1 + 1 + 1, 0, none⟩) 0 n] 30)).heap.size = w.heap.size + 1 + 1 + 1 + 1 + 1 := by simp
  obtain ⟨k0, k1⟩ := src_cell (i := 0) (v := .nilFunc) (heap_alloc_new (((((w.alloc (.cells (cs f) 53)).alloc (.cells #[.int .i64 n] 3)).alloc (.cells #[visF ob] 29)).alloc (.cells (madeCells #[.int .u8 0] n) 5)).alloc (.cells #[.slice (some ⟨w.heap.size + 1 + 1 + 1, 0, none⟩) 0 n] 30)) (.cells #[.nilFunc] 84)) rfl
  rw [hz5] at k0 k1
  obtain ⟨WF, hWF⟩ : ∃ WF, WF = (((((w.alloc (.cells (cs f) 53)).alloc (.cells #[.int .i64 n] 3)).alloc (.cells #[visF ob] 29)).alloc (.cells (madeCells #[.int .u8 0] n) 5)).alloc (.cells #[.slice (some ⟨w.heap.size + 1 + 1 + 1, 0, none⟩) 0 n] 30)).alloc (.cells #[subF (w.heap.size + 1 + 1 + 1 + 1) (w.heap.size + 1) (w.heap.size + 1 + 1) w.heap.size (w.heap.size + 1 + 1 + 1 + 1 + 1)] 84) := ⟨_, rfl⟩
  have key : ∀ i, i < 6 → WF.heap[w.heap.size + i]? = [Obj.cells (cs f) 53 (0, 0), .cells #[.int .i64 n] 3 (0, 0), .cells #[visF ob] 29 (0, 0), .cells (madeCells #[.int .u8 0] n) 5 (0, 0), .cells #[.slice (some ⟨w.heap.size + 1 + 1 + 1, 0, none⟩) 0 n] 30 (0, 0), .cells #[subF (w.heap.size + 1 + 1 + 1 + 1) (w.heap.size + 1) (w.heap.size + 1 + 1) w.heap.size (w.heap.size + 1 + 1 + 1 + 1 + 1)] 84 (0, 0)][i]? := fun i hi => by
    rw [hWF]
    show ((((((w.heap.push _).push _).push _).push _).push _).push _)[w.heap.size + i]? = _
    simp only [Array.getElem?_push, Array.size_push]
    match i, hi with
    | 0, _ => rw [if_neg (by omega), if_neg (by omega), if_neg (by omega), if_neg (by omega), if_neg (by omega), if_pos (by omega)]; rfl
    | 1, _ => rw [if_neg (by omega), if_neg (by omega), if_neg (by omega), if_neg (by omega), if_pos (by omega)]; rfl
    | 2, _ => rw [if_neg (by omega), if_neg (by omega), if_neg (by omega), if_pos (by omega)]; rfl
    | 3, _ => rw [if_neg (by omega), if_neg (by omega), if_pos (by omega)]; rfl
    | 4, _ => rw [if_neg (by omega), if_pos (by omega)]; rfl
    | 5, _ => rw [if_pos (by omega)]; rfl
  have hbl : Below w.heap.size w WF := by
    rw [hWF]
    exact ((((((Below.refl _ _).alloc (Nat.le_refl _) _).alloc (by simp) _).alloc (by simp; omega) _).alloc (by simp; omega) _).alloc (by simp; omega) _).alloc (by simp; omega) _
  have hyo : ∀ k, yv.ownBlock = some k → k < w.heap.size := fun k hk => (World.ownsRow.lt Hown.out k hk).2
  have hown2 : OwnB WF B (.slice (some ⟨w.heap.size + 1 + 1 + 1, 0, none⟩) 0 n) [] := ⟨rfl, .inr ⟨_, n, _, rfl, by omega, key 3 (by omega), Nat.zero_le _, by unfold maxLen; omega, by rw [size_madeCells]; omega, by simp [Lib.byteCells]⟩⟩
  have HWF := Lib.hid (show SubS WF B (w.heap.size + 1 + 1 + 1 + 1) (w.heap.size + 1) (w.heap.size + 1 + 1) w.heap.size (w.heap.size + 1 + 1 + 1 + 1 + 1) ob n f (.slice (some ⟨w.heap.size + 1 + 1 + 1, 0, none⟩) 0 n) yv l [] from
    ⟨key 1 (by omega), key 2 (by omega), key 4 (by omega), key 0 (by omega), key 5 (by omega), (hbl.block _ hlt).trans Ho.out, hown2, Hown.out.below hbl, fun k hk => by
      have h1 := hyo k hk
      refine ⟨by omega, by omega, by omega, by omega, by omega, fun e => Hne.out (e ▸ hk), fun e => ?_⟩
      have e2 : w.heap.size + 1 + 1 + 1 = k := by simpa [Value.ownBlock] using e
      omega, fun k hk => by
      have e2 : w.heap.size + 1 + 1 + 1 = k := by simpa [Value.ownBlock] using hk
      omega⟩)
  have HS := Lib.hid (show Six (w.heap.size + 1 + 1 + 1 + 1) (w.heap.size + 1) (w.heap.size + 1 + 1) w.heap.size (w.heap.size + 1 + 1 + 1 + 1 + 1) ob by constructor <;> omega)
  obtain ⟨k4, k5⟩ := src_cell (i := 0) (v := subF (w.heap.size + 1 + 1 + 1 + 1) (w.heap.size + 1) (w.heap.size + 1 + 1) w.heap.size (w.heap.size + 1 + 1 + 1 + 1 + 1)) HWF.out.walk rfl
  have Hbl := Lib.hid hbl
  have Hyo := Lib.hid hyo
  rw [hWF] at k4 k5
  unfold subF visF at hWF k4
  unfold visF at k0 k1 k5 ⊢
  unfold subF at k5
  clear key hbl hown2 hyo hz5
  go_enter Try.func44, Try.ntmps44
  go_wp2_with fail
  rw [← hWF]
  refine (subs_any B (w.heap.size + 1 + 1 + 1 + 1) (w.heap.size + 1) (w.heap.size + 1 + 1) w.heap.size (w.heap.size + 1 + 1 + 1 + 1 + 1) ob n HS.out (by omega) hn n 0 0 f _ yv l [] WF (by simp) rfl (by omega) Hf.out Hl.out HWF.out).mono ?_
  rintro e w1 ⟨rfl, bv', yv', hW1, hF1⟩
  have HW1 := Lib.hid hW1
  have HF1 := Lib.hid hF1
  clear hW1 hF1 k0 k1 k4 k5
  go_wp2
  go_end0
  refine ⟨rfl, yv', HW1.out.out, by simpa using HW1.out.own, fun e => (HW1.out.apart ob e).2.2.2.2.2.1 rfl, HF1.out.os.trans Hbl.out.os, HF1.out.tape.trans Hbl.out.tape, HF1.out.output.trans Hbl.out.output, Nat.le_trans Hbl.out.size HF1.out.size, fun k hk h1 h2 => ?_, fun k hk => ?_⟩
  · have h3 := Hbl.out.size
    exact (HF1.out.block k (by omega) (by omega) (by omega) h1 (fun e => by have e2 : w.heap.size + 1 + 1 + 1 = k := (by simpa [Value.ownBlock] using e); omega) h2).trans (Hbl.out.block k hk)
  · rcases HF1.out.own k hk with h | h
    · exact .inl h
    · exact .inr (Nat.le_trans Hbl.out.size h)
end Go.Proofs.Ythpjinfkagllfaa
