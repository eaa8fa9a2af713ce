/- SubRacks of the program. Conditions: strings of at most 2^20 bytes. -/
import Derived.Test.YthpjinfkagllfaaSoT
import Derived.Test.YthpjinfkagllfaaSuM
import Derived.Test.YthpjinfkagllfaaWv
set_option linter.unusedSimpArgs false
namespace Go.Proofs.Ythpjinfkagllfaa
open Go.RowKit
attribute [local irreducible] Calls
/-- The first n lengths. -/
def subsTo (f : Nat → Int) (n : Nat) : List ByteArray := ((List.range n).flatMap fun k => subsC k f 0).map mkT
theorem subsTo_succ (f : Nat → Int) (n : Nat) : subsTo f (n + 1) = subsTo f n ++ (subsC n f 0).map mkT := by
  unfold subsTo; rw [flat_range, List.map_append]
theorem subsTo_all (f : Nat → Int) (N : Nat) : subsTo f (N + 1) = (subsAll f N).map mkT := rfl
theorem subsTo_le (f : Nat → Int) (a d : Nat) : (subsTo f a).length ≤ (subsTo f (a + d)).length := by
  unfold subsTo; rw [List.length_map, List.length_map]; exact flat_le _ _ _
/-- What a rack gives. -/
structure RackF (f : Nat → Int) (N : Nat) : Prop where
  small : N ≤ 7
  cnt : ∀ p, 0 ≤ f p ∧ f p ≤ 2097152
  all : (subsTo f (N + 1)).length ≤ 128
theorem rackF {a : ByteArray} (h : isRack a = true) : RackF (cntOf a.data.toList) a.size ∧ tileAll a.data.toList = true ∧ Rises a.data.toList := by
  simp only [isRack, Bool.and_eq_true, decide_eq_true_eq] at h
  obtain ⟨h1, h2, h3⟩ := pile_parts h.1
  have hl : a.data.toList.length = a.size := Array.length_toList
  refine ⟨⟨h.2, fun p => ?_, ?_⟩, h1, h2⟩
  · have := cntOf_le a.data.toList p; have := h.2; omega
  · rw [subsTo_all, List.length_map, ← hl, subsAll_count h2 h1, prod_all]
    have h4 := prodTo_le (cntOf a.data.toList) 27
    have h5 : pileTo (cntOf a.data.toList) 27 = a.data.toList := pile_self h2 h1
    rw [h5, hl] at h4
    have h6 := Nat.pow_le_pow_right (show 0 < 2 by omega) h.2
    omega
theorem mkT_size (l : List UInt8) : (mkT l).size = l.length := rfl
theorem all_sizes (f : Nat → Int) (N : Nat) {i j : Nat} (hij : j < i) (hi : i < ((subsAll f N).map mkT).length) : (((subsAll f N).map mkT)[j]'(by omega)).size ≤ (((subsAll f N).map mkT)[i]).size := by
  rw [List.getElem_map, List.getElem_map, mkT_size, mkT_size]
  have hi2 : i < (subsAll f N).length := by simpa using hi
  have := (List.pairwise_iff_getElem.1 (subsAll_sorted f N)) j i (by omega) hi2 hij
  rcases this with h | ⟨h, -⟩ <;> omega
theorem subsAll_len {f : Nat → Int} {N : Nat} {x : List UInt8} (h : x ∈ subsAll f N) : x.length ≤ N := by
  rw [subsAll, List.mem_flatMap] at h
  obtain ⟨n, hn, hx⟩ := h
  rw [subsC_each n f 0 x hx]
  have := List.mem_range.1 hn; omega
theorem subsTo_max (f : Nat → Int) {N : Nat} (hN : N ≤ 7) : ∀ x ∈ subsTo f (N + 1), x.size ≤ maxLen := by
  intro x hx
  rw [subsTo_all] at hx
  obtain ⟨y, hy, rfl⟩ := List.mem_map.1 hx
  rw [mkT_size]
  have := subsAll_len hy
  unfold maxLen; omega
theorem srV_no {a : ByteArray} (h : isRack a = false) : srV a = [] ∧ srE a = 1 := by simp [srV, srE, h]
theorem srV_yes {a : ByteArray} (h : isRack a = true) : srV a = subsTo (cntOf a.data.toList) (a.size + 1) ∧ srE a = 0 := by simp [srV, srE, h, subsTo_all]
theorem lessNo_of (B ob : Nat) (yv : Value) (f : Nat → Int) (N : Nat) (w : World) (hN : N ≤ 7) (ho : w.heap[ob]? = some (.cells #[yv] 22 (0, 0))) (hown : OwnS w B yv (subsTo f (N + 1))) : LessNo ob (subsTo f (N + 1)).length w := by
  intro i j x y w' hx hy hij hi hb
  subst hx hy
  refine (less2_any B ob yv _ i j w' ((hb.block _ (lt_of_heap ho)).trans ho) (hown.below hb) hi (by omega) (subsTo_max f hN)).mono ?_
  rintro e w2 ⟨rfl, hb2⟩
  refine ⟨?_, hb2⟩
  have := all_sizes f N hij hi
  congr 2
  rw [decide_eq_false_iff_not]
  simp only [subsTo_all] at *
  omega
set_option maxHeartbeats 8000000 in
set_option maxRecDepth 20000 in
theorem implSubRacks_any (a : ByteArray) (w : World) (has : a.size ≤ 1048576) :
    Calls Try.prog 14 #[.string a] w fun e w' => ∃ v', e = .returned (.tuple #[v', .int .i64 (srE a)]) ∧ StrsW w' w.heap.size w'.heap.size v' (srV a) ∧ Below w.heap.size w w' := by
  have hma : a.size ≤ maxLen := by unfold maxLen; omega
  have hmf : ∀ (fn : Fn) (first cap : Array Value) (w : World), (Instr.makeFunc fn first cap).run Try.prog w = .ok (.func fn first cap) w := fun _ _ _ _ => rfl
  cases hA : isRack a
  · have HA := Lib.hid (srV_no hA)
    go_enter Try.func14, Try.ntmps14
    go_wp2_with fail
    refine (implValidRack_any _ _ hma).mono ?_
    rw [show (isPile a && decide (a.size ≤ 7)) = false from hA]
    rintro e w1 ⟨rfl, hb1⟩
    go_wp2
    go_ret2
    exact ⟨_, by rw [HA.out.2]; rfl, by rw [HA.out.1]; exact nil_strs _ _ _, hb1⟩
  · obtain ⟨hR, hta, -⟩ := rackF hA
    have HA := Lib.hid (srV_yes hA)
    obtain ⟨f, hf⟩ : ∃ f, f = cntOf a.data.toList := ⟨_, rfl⟩
    rw [← hf] at HA hR
    have Hf := Lib.hid hf
    have HR := Lib.hid hR
    have h7 := hR.small
    clear hf hR
    go_enter Try.func14, Try.ntmps14
    go_wp2_with fail
    refine (implValidRack_any _ _ hma).mono ?_
    rw [show (isPile a && decide (a.size ≤ 7)) = true from hA]
    rintro e w1 ⟨rfl, hb1⟩
    have Hb1 := Lib.hid hb1
    have hz1 := hb1.size
    clear hb1 hA
    have hz2 : (w1.alloc (.cells #[] 9)).heap.size = w1.heap.size + 1 := by simp
    obtain ⟨k0, k1⟩ := src_cell (i := 0) (v := .slice none 0 0) (heap_alloc_new (w1.alloc (.cells #[] 9)) (.cells #[.slice none 0 0] 22)) rfl
    rw [hz2] at k0 k1
    go_wp2
    clear k0 k1
    go_loopw [5] (fun i wr => ∃ k : Nat, k ≤ a.size + 1 ∧ i = .int .i64 (k : Int) ∧ ∃ yv, wr.heap[w1.heap.size + 1]? = some (.cells #[yv] 22 (0, 0)) ∧ OwnS wr w.heap.size yv (subsTo f k) ∧ yv.ownBlock ≠ some (w1.heap.size + 1) ∧ Below w.heap.size w wr) (fun i _ => a.size + 2 - (intOf i).toNat)
    case atStart =>
      refine ⟨0, by omega, rfl, .slice (some ⟨w1.heap.size, 0, none⟩) 0 0, ?_, ?_, ?_, ?_⟩
      · have := heap_alloc_new (w1.alloc (.cells #[] 9)) (.cells #[.slice (some ⟨w1.heap.size, 0, none⟩) 0 0] 22)
        rwa [hz2] at this
      · exact World.ownsRow.alloc (OwnS.made w1 w.heap.size hz1) _
      · simp [Value.ownBlock]
      · exact (Hb1.out.alloc hz1 _).alloc (by simp; omega) _
    case round =>
      clear hz2
      obtain ⟨k, hk, rfl, yv, ho, hown, hne, hb⟩ := hrel
      have Ho := Lib.hid ho; have Hown := Lib.hid hown; have Hne := Lib.hid hne; have Hb := Lib.hid hb
      have hbs := hb.size
      have hlo := lt_of_heap ho
      by_cases hlt : k ≤ a.size
      · have hltI : (k : Int) ≤ (a.size : Int) := by omega
        clear ho hown hne hb
        go_wp2_with fail
        refine (countsOf_any a wr has hta).mono ?_
        rw [← Hf.out]
        rintro e w2 ⟨rfl, hb2⟩
        have hle := HR.out.all
        have hle2 := subsTo_le f (k + 1) (a.size - k)
        rw [show k + 1 + (a.size - k) = a.size + 1 by omega, subsTo_succ, List.length_append, List.length_map] at hle2
        have Hle := Lib.hid (show (subsTo f k).length + (subsC k f 0).length ≤ 4398046511104 by omega)
        have Hb2 := Lib.hid hb2
        clear hb2 hle hle2
        go_wp2_with fail
        refine (subsets_any w.heap.size (w1.heap.size + 1) k f yv (subsTo f k) w2 (by omega) HR.out.cnt Hle.out ((Hb2.out.block _ hlo).trans Ho.out) (Hown.out.below Hb2.out) Hne.out (by omega)).mono ?_
        rintro e w3 ⟨rfl, yv3, ho3, hown3, hne3, h1, h2, h3, h4, h5, h6⟩
        have hB3 : Below w.heap.size w2 w3 := ⟨h1, h2, h3, h4, fun q hq => h5 q (by have := Hb2.out.size; omega) (by omega) (fun e => by have := (World.ownsRow.lt Hown.out q e).1; omega)⟩
        have HB3 := Lib.hid ((Hb.out.trans (Hb2.out.mono hbs)).trans hB3)
        have Ho3 := Lib.hid ho3; have Hown3 := Lib.hid hown3; have Hne3 := Lib.hid hne3
        clear ho3 hown3 hne3 h1 h2 h3 h4 h5 h6 hB3
        go_wp2
        go_roundw
        case rel => exact ⟨k + 1, by omega, by go_num, yv3, Ho3.out, by rw [subsTo_succ]; exact Hown3.out, Hne3.out, HB3.out⟩
        case measure => simp [intOf]; omega
      · obtain rfl : k = a.size + 1 := by omega
        have hltI : ¬ ((a.size + 1 : Nat) : Int) ≤ (a.size : Int) := by omega
        have hnil : 1 ≤ (subsTo f (a.size + 1)).length := by
          have := subsTo_le f 1 a.size
          rw [Nat.add_comm 1 a.size] at this
          exact this
        obtain ⟨g, cap, rfl⟩ : ∃ g cap, yv = .slice (some ⟨g, 0, none⟩) (subsTo f (a.size + 1)).length cap := by
          rcases hown.2 with ⟨_, h0⟩ | ⟨g, cap, cur, hv, _⟩
          · omega
          · exact ⟨g, cap, hv⟩
        obtain ⟨k0, k1⟩ := src_cell (i := 0) (v := .slice (some ⟨g, 0, none⟩) (subsTo f (a.size + 1)).length cap) ho rfl
        have hall := HR.out.all
        have HN := Lib.hid (lessNo_of _ _ _ f a.size wr h7 ho hown)
        clear ho hown hne hb
        obtain ⟨L, hL⟩ : ∃ L, L = subsTo f (a.size + 1) := ⟨_, rfl⟩
        rw [← hL] at HN k0 hall hnil Hown Ho
        have HL := Lib.hid hL
        clear hL
        go_wp2_with fail
        refine (sliceStable_any (w1.heap.size + 1) (some ⟨g, 0, none⟩) L.length cap wr hnil (by omega) HN.out).mono ?_
        rintro e w3 ⟨rfl, hb3⟩
        have Hb3 := Lib.hid (Hb.out.trans (hb3.mono hbs))
        have Hown3 := Lib.hid (Hown.out.below hb3)
        obtain ⟨k2, k3⟩ := src_cell (i := 0) (v := .slice (some ⟨g, 0, none⟩) L.length cap) ((hb3.block _ hlo).trans Ho.out) rfl
        clear hb3 k0 k1
        go_wp2
        go_ret2
        exact ⟨_, by rw [HA.out.2]; rfl, by rw [HA.out.1, ← HL.out]; exact Hown3.out.strs (by rw [HL.out]; exact subsTo_max f h7), Hb3.out⟩
end Go.Proofs.Ythpjinfkagllfaa
