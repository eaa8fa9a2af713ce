/- FnAnagrams: the drawn lexicon and the drawn word; HasWord of the reference; a2In, a2Rises. Condition: at most 5000 bytes. -/
import Derived.Test.YthpjinfkagllfaaIn
import Derived.Test.YthpjinfkagllfaaBy
import Derived.Test.YthpjinfkagllfaaLf
import Derived.Test.YthpjinfkagllfaaFaL
set_option linter.unusedSimpArgs false
namespace Go.Proofs.Ythpjinfkagllfaa
open Go.RowKit
def someL : List ByteArray := [⟨#[97, 110]⟩, ⟨#[97, 116]⟩, ⟨#[97, 116, 101]⟩, ⟨#[101, 97, 114]⟩, ⟨#[101, 97, 114, 110]⟩, ⟨#[101, 97, 114, 115]⟩, ⟨#[101, 97, 115, 116]⟩, ⟨#[101, 97, 116]⟩, ⟨#[101, 97, 116, 101, 110]⟩, ⟨#[101, 97, 116, 115]⟩, ⟨#[101, 110]⟩, ⟨#[97, 110, 116]⟩, ⟨#[97, 110, 116, 115]⟩, ⟨#[97, 114, 101]⟩, ⟨#[97, 114, 101, 110, 97]⟩, ⟨#[97, 114, 116]⟩, ⟨#[97, 114, 116, 115]⟩, ⟨#[97, 115]⟩, ⟨#[101, 114]⟩, ⟨#[101, 115]⟩, ⟨#[105, 110]⟩, ⟨#[105, 115]⟩, ⟨#[110, 97]⟩, ⟨#[110, 101]⟩, ⟨#[110, 101, 97, 114]⟩, ⟨#[110, 101, 97, 116]⟩, ⟨#[110, 101, 115, 116]⟩, ⟨#[110, 101, 115, 116, 115]⟩, ⟨#[110, 101, 116]⟩, ⟨#[114, 97, 116]⟩, ⟨#[114, 97, 116, 101]⟩, ⟨#[114, 97, 116, 101, 115]⟩, ⟨#[114, 101]⟩, ⟨#[114, 101, 115, 116]⟩, ⟨#[115, 97, 116]⟩, ⟨#[115, 101, 97]⟩, ⟨#[115, 101, 97, 116]⟩, ⟨#[115, 101, 116]⟩, ⟨#[116, 97]⟩, ⟨#[116, 97, 114]⟩, ⟨#[116, 97, 114, 115]⟩, ⟨#[116, 97, 114, 116]⟩, ⟨#[116, 101, 97]⟩, ⟨#[116, 101, 97, 114]⟩, ⟨#[116, 101, 97, 115]⟩, ⟨#[116, 101, 110]⟩, ⟨#[116, 101, 114, 110]⟩, ⟨#[116, 101, 115, 116]⟩, ⟨#[116, 101, 115, 116, 115]⟩, ⟨#[116, 114, 101, 101, 115]⟩, ⟨#[98, 97, 110, 97, 110, 97]⟩, ⟨#[98, 101, 101]⟩, ⟨#[98, 101, 101, 110]⟩, ⟨#[98, 101, 101, 115]⟩, ⟨#[115, 116, 97, 114]⟩, ⟨#[115, 116, 97, 114, 101]⟩, ⟨#[115, 116, 97, 114, 116]⟩, ⟨#[116, 114, 101, 101]⟩, ⟨#[115, 116, 97, 114, 115]⟩, ⟨#[116, 114, 101, 97, 116, 115]⟩]
theorem someL_long : ∀ s ∈ someL, isLong s = true := by decide +kernel
theorem someL_len : someL.length = 60 := by decide +kernel
theorem long_size {s : ByteArray} (h : isLong s = true) : s.size ≤ 12 := by
  have := isLong_word h
  simp only [isWord, inI, Bool.and_eq_true, decide_eq_true_eq] at this
  omega
theorem own_kept {w w' : World} {B lo hi : Nat} {v : Value} {l : List ByteArray} (h : OwnS w B v l) (hk : Kept lo hi w w') (hh : hi ≤ B) : OwnS w' B v l := by
  obtain ⟨h1, h2⟩ := h
  refine ⟨h1, ?_⟩
  rcases h2 with h2 | ⟨g, cap, cur, a, b, c, d⟩
  · exact .inl h2
  · exact .inr ⟨g, cap, cur, a, b, (hk.block g (Array.getElem?_eq_some_iff.1 c).1 (.inr (by omega))).trans c, d⟩
attribute [local irreducible] Calls
set_option maxHeartbeats 2000000 in
set_option maxRecDepth 20000 in
theorem l05Some_any (w : World) : Calls Try.prog 60 #[] w fun e w' => e = .returned (.slice (some ⟨w.heap.size, 0, none⟩) someL.length someL.length) ∧ w' = w.alloc (.cells (someL.map Value.string).toArray 9) := by
  go_enter Try.func60, Try.ntmps60
  go_wp2
  go_ret
  exact ⟨rfl, rfl⟩
/-- The block that holds some strings. -/
def ListAt (w : World) (b : Nat) (L : List ByteArray) : Prop := w.heap[b]? = some (.cells (L.map Value.string).toArray 9 (0, 0))
theorem ListAt.cell {w : World} {b : Nat} {L : List ByteArray} (h : ListAt w b L) (j : Nat) (hj : j < L.length) : w.cell? ⟨b, j, none⟩ = some (.string L[j]) := by
  unfold ListAt at h
  simp [World.cell?, h, hj]
theorem ListAt.kept {w w' : World} {b lo hi : Nat} {L : List ByteArray} (h : ListAt w b L) (hk : Kept lo hi w w') (hd : b < lo ∨ hi ≤ b) : ListAt w' b L :=
  (hk.block b (Array.getElem?_eq_some_iff.1 h).1 hd).trans h
set_option maxHeartbeats 8000000 in
set_option maxRecDepth 20000 in
theorem l05Draw_any (g : Nat) (bs : List UInt8) (k : Nat) (n : Nat) (z : Int) (w : World) (hs : SrcW w g bs k) (hk : k ≤ 100000) (hz : z = (n : Int)) (hn : n ≤ 20) :
    Calls Try.prog 58 #[.pointer (some ⟨g, 0, none⟩), .int .i64 z] w fun e w' => ∃ (v : Value) (l : List ByteArray) (k' : Nat), e = .returned (.agg #[v]) ∧ StrsW w' w.heap.size w'.heap.size v l ∧ Inc l ∧ (∀ s ∈ l, s ∈ someL) ∧ l.length ≤ n ∧ k' ≤ k + 4 * n + 2 ∧ SrcW w' g bs k' ∧ Kept g (g + 1) w w' := by
  subst hz
  have hgl := hs.lt
  obtain ⟨L, hL⟩ : ∃ L, L = someL := ⟨_, rfl⟩
  have HLL := Lib.hid hL
  have hLn : L.length = 60 := by rw [hL]; exact someL_len
  have hb0 : Below w.heap.size w (w.alloc (.cells #[.slice none 0 0] 40)) := (Below.refl _ _).alloc (Nat.le_refl _) _
  have HS0 := Lib.hid (hs.below hb0)
  have HR0 : Hid ((w.alloc (.cells #[.slice none 0 0] 40)).heap[w.heap.size]? = some (.cells #[.slice none 0 0] 40 (0, 0))) := Lib.hid (heap_alloc_new w _)
  have HB0 := Lib.hid hb0
  clear hs hb0
  go_enter Try.func58, Try.ntmps58
  go_wp2_with fail
  refine (l05Some_any _).mono ?_
  rw [← hL]
  rintro e w1 ⟨rfl, hw1⟩
  have hsz0 : (w.alloc (.cells #[.slice none 0 0] 40)).heap.size = w.heap.size + 1 := by simp
  rw [hsz0]
  have hb1 : Below (w.heap.size + 1) (w.alloc (.cells #[.slice none 0 0] 40)) w1 := by rw [hw1]; exact (Below.refl _ _).alloc (by simp) _
  have hsz1 : w1.heap.size = w.heap.size + 1 + 1 := by rw [hw1]; simp
  have HL1 : Hid (ListAt w1 (w.heap.size + 1) L) := Lib.hid (by rw [hw1, ← hsz0]; exact heap_alloc_new _ _)
  have HR1 : Hid (w1.heap[w.heap.size]? = some (.cells #[.slice none 0 0] 40 (0, 0))) := Lib.hid ((hb1.block _ (by omega)).trans HR0.out)
  have HS1 := Lib.hid (HS0.out.below (by rw [hsz0]; exact hb1))
  have HB1 := Lib.hid (HB0.out.trans (hb1.mono (by omega)))
  clear hw1 hL hsz0 HR0 HS0 HB0 hb1
  have HO1 := Lib.hid (OwnS.made w1 (w.heap.size + 2) (by omega))
  have hb2 : Below w1.heap.size w1 (w1.alloc (.cells #[] 9)) := (Below.refl _ _).alloc (Nat.le_refl _) _
  have K2 : Hid (Kept g (g + 1) w (w1.alloc (.cells #[] 9))) := Lib.hid (Kept.of_below (HB1.out.trans (hb2.mono (by omega))))
  have S2 : Hid (SrcW (w1.alloc (.cells #[] 9)) g bs k) := Lib.hid (HS1.out.below hb2)
  have HL2 : Hid (ListAt (w1.alloc (.cells #[] 9)) (w.heap.size + 1) L) := Lib.hid (HL1.out.kept (lo := g) (hi := g + 1) (Kept.of_below hb2) (.inr (by omega)))
  have HR2 : Hid ((w1.alloc (.cells #[] 9)).heap[w.heap.size]? = some (.cells #[.slice none 0 0] 40 (0, 0))) := Lib.hid ((hb2.block _ (by omega)).trans HR1.out)
  clear hb2 HR1 HS1 HB1
  go_wp2_with fail
  refine (pick_any g bs k (n + 1) _ _ S2.out (by omega) (by omega) (by omega)).mono ?_
  rintro e w2 ⟨r, k1, rfl, hr, hk1, hs2, hkk2⟩
  have hrn : r ≤ n := by omega
  have S3 := Lib.hid hs2
  have K3 := Lib.hid (K2.out.trans hkk2)
  have L3 := Lib.hid (HL2.out.kept hkk2 (.inr (by omega)))
  have R3 : Hid (w2.heap[w.heap.size]? = some (.cells #[.slice none 0 0] 40 (0, 0))) := Lib.hid ((hkk2.block _ (by simp; omega) (.inr (by omega))).trans HR2.out)
  have O3 := Lib.hid (own_kept HO1.out hkk2 (by omega))
  clear hs2 hkk2 hr HL1 HO1 K2 S2 HL2 HR2
  rw [hsz1] at O3
  clear hsz1
  go_wp2
  go_loopw [6, 7] (fun out i wr => ∃ (m k2 g2 cap : Nat) (l : List ByteArray), out = .slice (some ⟨g2, 0, none⟩) l.length cap ∧ i = .int .i64 (m : Int) ∧ l.length + m ≤ r ∧ k2 + 4 * m ≤ k + 2 + 4 * r ∧ Hid (Inc l) ∧ Hid (∀ s ∈ l, s ∈ someL) ∧ Hid (OwnS wr (w.heap.size + 2) (.slice (some ⟨g2, 0, none⟩) l.length cap) l) ∧ Hid (ListAt wr (w.heap.size + 1) L) ∧ Hid (wr.heap[w.heap.size]? = some (.cells #[.slice none 0 0] 40 (0, 0))) ∧ Hid (SrcW wr g bs k2) ∧ Hid (Kept g (g + 1) w wr) ∧ Hid (w.heap.size + 2 ≤ wr.heap.size)) (fun _ i _ => (intOf i).toNat)
  case atStart => exact ⟨r, k1, w.heap.size + 2, 0, [], rfl, rfl, by simp, by omega, Lib.hid (by unfold Inc; exact List.Pairwise.nil), Lib.hid (by simp), O3, L3, R3, S3, K3, Lib.hid (by have := (World.ownsRow.lt O3.out _ rfl); omega)⟩
  case round =>
    obtain ⟨m, k2, g2, cap, l, rfl, rfl, hlm, hk2, HI, HM, HO, HL, HR, HS, HK, HZ⟩ := hrel
    have hwsz := HZ.out
    by_cases hlt : 0 < m
    · have hltI : (0 : Int) < (m : Int) := by omega
      go_wp2_with fail
      refine (pick_any g bs k2 60 _ _ HS.out (by omega) (by omega) (by omega)).mono ?_
      rintro e w3 ⟨r2, k3, rfl, hr2, hk3, hs3, hkk3⟩
      have hr2L : r2 < L.length := by omega
      have hr2I : (r2 : Int) < (L.length : Int) := by omega
      have hc3 := (HL.out.kept hkk3 (.inr (by omega))).cell r2 hr2L
      have hmem : Hid (L[r2] ∈ someL) := Lib.hid (HLL.out ▸ List.getElem_mem _)
      have L4 := Lib.hid (HL.out.kept hkk3 (.inr (by omega)))
      have R4 : Hid (w3.heap[w.heap.size]? = some (.cells #[.slice none 0 0] 40 (0, 0))) := Lib.hid ((hkk3.block _ (by omega) (.inr (by omega))).trans HR.out)
      have S4 := Lib.hid hs3
      have K4 := Lib.hid (HK.out.trans hkk3)
      have O4 := Lib.hid (own_kept HO.out hkk3 (by omega))
      have hw3 : w.heap.size + 2 ≤ w3.heap.size := Nat.le_trans hwsz hkk3.size
      have HSZ := Lib.hid hw3
      clear hs3 hkk3
      go_wp2_with fail
      refine (insertG_any (w.heap.size + 2) g2 cap l L[r2] _ (by omega) HSZ.out O4.out).mono ?_
      rintro e w4 ⟨l2, g3, cap3, rfl, hins, hown4, hb4⟩
      have hl2 := hins.len
      have I5 := Lib.hid (hins.inc HI.out)
      have M5 : Hid (∀ s ∈ l2, s ∈ someL) := Lib.hid fun s hs => by
        rcases (hins.mem s).1 hs with rfl | h
        · exact hmem.out
        · exact HM.out s h
      have O5 := Lib.hid hown4
      have L5 := Lib.hid (L4.out.kept (lo := g) (hi := g + 1) (Kept.of_below (hb4.mono (by omega))) (.inr (by omega)))
      have R5 : Hid (w4.heap[w.heap.size]? = some (.cells #[.slice none 0 0] 40 (0, 0))) := Lib.hid ((hb4.block _ (by omega)).trans R4.out)
      have S5 := Lib.hid (S4.out.low (hb4.mono (by omega)))
      have K5 := Lib.hid (K4.out.trans (Kept.of_below hb4))
      have Z5 := Lib.hid (Nat.le_trans hw3 hb4.size)
      clear hb4 hown4 hins hc3
      go_wp2
      go_roundw
      case rel => exact ⟨m - 1, k3, g3, cap3, l2, rfl, by go_num, by omega, by omega, I5, M5, O5, L5, R5, S5, K5, Z5⟩
      case measure => simp [intOf]; omega
    · obtain rfl : m = 0 := by omega
      have hk0 := HR.out
      have d0 : wr.cell? ⟨w.heap.size, 0, none⟩ = some (.slice none 0 0) := by simp [World.cell?, hk0]
      have f0 : wr.frozen? ⟨w.heap.size, 0, none⟩ = false := by simp [World.frozen?, hk0]
      clear hk0
      go_wp2
      have hlong : ∀ s ∈ l, s.size ≤ maxLen := fun s hs => by have := long_size (someL_long s (HM.out s hs)); unfold maxLen; omega
      have h1 := set1 (.slice (some ⟨g2, 0, none⟩) l.length cap) HR.out
      refine bodyPost_ret (v := .agg #[.slice (some ⟨g2, 0, none⟩) l.length cap]) (results_cell_row (p := 4) (ty := 40) rfl _ _ w.heap.size _ _ _ _ rfl h1 Try.underlying40 rfl infoLex) rfl ⟨_, l, k2, rfl, ?_, HI.out, HM.out, by omega, by omega, ?_, HK.out.set_new (Nat.le_refl _)⟩
      · exact ((own_kept HO.out (kept_setCell (lo := w.heap.size) (hi := w.heap.size + 1) (Nat.le_refl _) (by omega) _) (by omega)).strs hlong).mono (by omega) (Nat.le_refl _)
      · exact HS.out.low (Kept.below (kept_setCell (lo := g + 1) (hi := w.heap.size + 1) (by omega) (by omega) _) (Nat.le_refl _) (by omega))
set_option maxHeartbeats 1000000 in
theorem a2Lexicon_any (v : Value) (bs : List UInt8) (w : World) (hv : BytesR w v bs) (hl : bs.length ≤ 3000) :
    Calls Try.prog 24 #[v] w fun e w' => ∃ (u : Value) (l : List ByteArray), e = .returned (.agg #[u]) ∧ Strs w' u l ∧ lexB l = true ∧ l.length ≤ 16 ∧ Below w.heap.size w w' := by
  have hb0 : Below w.heap.size w (w.alloc (.cells #[.slice none 0 0] 40)) := (Below.refl _ _).alloc (Nat.le_refl _) _
  have HR0 : Hid ((w.alloc (.cells #[.slice none 0 0] 40)).heap[w.heap.size]? = some (.cells #[.slice none 0 0] 40 (0, 0))) := Lib.hid (heap_alloc_new w _)
  have HV := Lib.hid (hv.below hb0)
  have HB0 := Lib.hid hb0
  obtain ⟨pa, pc, rfl, -, -⟩ := hv.shape
  have hsz0 : (w.alloc (.cells #[.slice none 0 0] 40)).heap.size = w.heap.size + 1 := by simp
  have HSZ := Lib.hid hsz0
  clear hsz0 hv hb0
  go_enter Try.func24, Try.ntmps24
  go_wp2_with fail
  refine (l00From_any _ bs _ HV.out (by omega)).mono ?_
  rintro e w1 ⟨rfl, hs1, hb1⟩
  rw [HSZ.out] at hs1 hb1
  try rw [HSZ.out]
  have hb1' : Below w.heap.size w w1 := HB0.out.trans (hb1.mono (by omega))
  have HR1 : Hid (w1.heap[w.heap.size]? = some (.cells #[.slice none 0 0] 40 (0, 0))) := Lib.hid ((hb1.block _ (by omega)).trans HR0.out)
  have hz1 := hs1.lt
  have HB1 := Lib.hid hb1'
  clear hb1 hb1' HR0 HB0 HSZ HV
  go_wp2_with fail
  refine (l05Draw_any _ bs 0 16 _ _ hs1 (by omega) rfl (by omega)).mono ?_
  rintro e w2 ⟨u, l, k2, rfl, hu, hi, hm, hl16, hk2, hs2, hkk2⟩
  have HB2 := Lib.hid (HB1.out.trans (hkk2.below (by omega) HB1.out.size))
  have HU := Lib.hid hu
  have HX : Hid (lexB l = true) := Lib.hid (lexB_of hi (by omega) fun s h => someL_long s (hm s h))
  have HR2 : Hid (w2.heap[w.heap.size]? = some (.cells #[.slice none 0 0] 40 (0, 0))) := Lib.hid ((hkk2.block _ (by omega) (.inl (by omega))).trans HR1.out)
  obtain ⟨a, c, rfl, -, -, hcs⟩ := hu.read.shape
  have hk0 := HR2.out
  have d0 : w2.cell? ⟨w.heap.size, 0, none⟩ = some (.slice none 0 0) := by simp [World.cell?, hk0]
  have f0 : w2.frozen? ⟨w.heap.size, 0, none⟩ = false := by simp [World.frozen?, hk0]
  have HSl : Hid (Strs (w2.setCell ⟨w.heap.size, 0, none⟩ (.slice a l.length c)) (.slice a l.length c) l) := Lib.hid ((hu.kept (kept_setCell (lo := w.heap.size) (hi := w.heap.size + 1) (Nat.le_refl _) (Nat.lt_succ_self _) _) (.inr (by omega))).read)
  clear hu hi hm hs2 hkk2 hk0 hs1 HR1 HB1 hcs
  go_wp2
  have h1 := set1 (.slice a l.length c) HR2.out
  refine bodyPost_ret (v := .agg #[.slice a l.length c]) (results_cell_row (p := 2) (ty := 40) rfl _ _ w.heap.size _ _ _ _ rfl h1 Try.underlying40 rfl infoLex) rfl ⟨_, l, rfl, HSl.out, HX.out, hl16, HB2.out.setCell (p := ⟨w.heap.size, 0, none⟩) (Nat.le_refl _) _⟩
set_option maxHeartbeats 1000000 in
theorem a2Word_any (v : Value) (bs : List UInt8) (w : World) (hv : BytesR w v bs) (hl : bs.length ≤ 3000) :
    Calls Try.prog 25 #[v] w fun e w' => ∃ a : ByteArray, e = .returned (.string a) ∧ isLong a = true ∧ Below w.heap.size w w' := by
  obtain ⟨pa, pc, rfl, -, -⟩ := hv.shape
  go_enter Try.func25, Try.ntmps25
  go_wp2_with fail
  refine (l00From_any _ bs w hv (by omega)).mono ?_
  rintro e w1 ⟨rfl, hs1, hb1⟩
  go_wp2_with fail
  refine (l05Some_any _).mono ?_
  rintro e w2 ⟨rfl, hw2⟩
  have hb2 : Below w1.heap.size w1 w2 := by rw [hw2]; exact (Below.refl _ _).alloc (Nat.le_refl _) _
  have hst := strs_built w1 someL (by rw [someL_len]; omega) (fun s h => by have := long_size (someL_long s h); unfold maxLen; omega)
  rw [← hw2] at hst
  have hz1 : w.heap.size < w1.heap.size := hs1.lt
  clear hw2
  go_wp2_with fail
  refine (text_any w.heap.size bs 0 _ someL _ (hs1.below hb2) (by omega) hst (by rw [someL_len]; omega) (by rw [someL_len]; omega) (fun a n c e p hp => ?_)).mono ?_
  · cases e; cases hp; show w1.heap.size ≠ w.heap.size; omega
  rintro e w3 ⟨t, k2, rfl, htm, hk2, hs2, hkk2⟩
  have HX := Lib.hid (someL_long t htm)
  have HB := Lib.hid ((hb1.trans (hb2.mono hb1.size)).trans (hkk2.below (Nat.le_refl _) (hb1.trans (hb2.mono hb1.size)).size))
  clear hs2 hkk2 htm hst hb2 hb1
  go_wp2
  go_ret
  exact ⟨t, rfl, HX.out, HB.out⟩
set_option maxHeartbeats 1000000 in
theorem hasWord_any (u : Value) (l : List ByteArray) (p : ByteArray) (w : World) (hu : Strs w u l) (hl : lexB l = true) :
    Calls Try.prog 29 #[.agg #[u], .string p] w fun e w' => e = .returned (.bool (hasB l p)) ∧ Below w.heap.size w w' := by
  obtain ⟨a, c, rfl, -, -, -⟩ := hu.shape
  have hb0 : Below w.heap.size w (w.alloc (.cells #[.slice a l.length c] 40)) := (Below.refl _ _).alloc (Nat.le_refl _) _
  have hs0 := hu.below hb0
  have hc0 := cell_newD w #[.slice a l.length c] 40 0 (.slice a l.length c) rfl
  have hl2 := lexB_len hl
  have HX := Lib.hid hl
  clear hu
  go_enter Try.func29, Try.ntmps29
  go_wp2_with fail
  refine (l05Ok_any w.heap.size _ l _ hc0 hs0).mono ?_
  rw [hl]
  rintro e w1 ⟨rfl, q, hw1⟩
  have hb1 : Below (w.alloc (.cells #[.slice a l.length c] 40)).heap.size (w.alloc (.cells #[.slice a l.length c] 40)) w1 := by rw [hw1]; exact below_drewN (Below.refl _ _) _
  have hc1 := cell_below hb1 hc0
  have hs1 := hs0.below hb1
  have HB := Lib.hid (hb0.trans (hb1.mono hb0.size))
  clear hw1 hc0 hs0 hb0 hb1 hl
  go_wp2_with fail
  refine (l05Has_any _ l p _ hs1 (lexB_inc HX.out) (by omega)).mono ?_
  rintro e w2 ⟨rfl, hb2⟩
  have HB2 := Lib.hid (HB.out.trans (hb2.mono HB.out.size))
  clear hb2
  go_wp2
  go_ret
  exact ⟨rfl, HB2.out⟩
set_option maxHeartbeats 1000000 in
theorem a2In_any (u : Value) (l : List ByteArray) (p : ByteArray) (w : World) (hu : Strs w u l) (_hn : l.length ≤ 1048576) :
    Calls Try.prog 31 #[u, .string p] w fun e w' => e = .returned (.bool (seenB l l.length p)) ∧ Below w.heap.size w w' := by
  obtain ⟨a, c, rfl, hl, hc, hcs⟩ := hu.shape
  unfold maxLen at hc
  clear hu
  go_enter Try.func31, Try.ntmps31
  go_wp2
  go_loopw [5] (fun i wr => ∃ k : Nat, k ≤ l.length ∧ i = .int .i64 (k : Int) ∧ Hid (seenB l k p = false) ∧ Below w.heap.size w wr) (fun i _ => l.length - (intOf i).toNat)
  case atStart => exact ⟨0, Nat.zero_le _, rfl, Lib.hid rfl, Below.refl _ _⟩
  case round =>
    obtain ⟨k, hk, rfl, HS, hb⟩ := hrel
    by_cases hlt : k < l.length
    · obtain ⟨b1, o1, rfl, hc1, hs1⟩ := hcs k hlt
      have hw1 := cell_below hb hc1
      have HSu := Lib.hid (seenB_succ hlt p)
      clear hc1 hs1
      cases hd : (l[k].toList == p.toList)
      · have Hd := Lib.hid hd
        go_wp2
        go_roundw
        case rel => exact ⟨k + 1, by omega, by go_num, Lib.hid (by rw [HSu.out, HS.out, Hd.out]; rfl), hb⟩
        case measure => simp [intOf]; omega
      · have Hd := Lib.hid hd
        have Hs2 : Hid (seenB l l.length p = true) := Lib.hid (by rw [← bytes_eq_of hd]; exact seenB_all (List.getElem_mem _))
        go_wp2
        go_ret
        exact ⟨ret_bool Hs2.out.symm, hb⟩
    · obtain rfl : k = l.length := by omega
      go_wp2
      go_ret
      exact ⟨ret_bool HS.out.symm, hb⟩
set_option maxHeartbeats 1000000 in
theorem a2Rises_any (u : Value) (l : List ByteArray) (w : World) (hu : Strs w u l) (hi : IncTo l l.length) (_hn : l.length ≤ 1048576) :
    Calls Try.prog 28 #[u] w fun e w' => e = .returned (.bool true) ∧ Below w.heap.size w w' := by
  obtain ⟨a, c, rfl, hl, hc, hcs⟩ := hu.shape
  unfold maxLen at hc
  have HI := Lib.hid hi
  clear hu hi
  go_enter Try.func28, Try.ntmps28
  go_wp2
  go_loopw [3] (fun i wr => ∃ k : Nat, k ≤ l.length ∧ i = .int .i64 ((k : Int) + 1) ∧ Below w.heap.size w wr) (fun i _ => l.length + 1 - (intOf i).toNat)
  case atStart => exact ⟨0, Nat.zero_le _, rfl, Below.refl _ _⟩
  case round =>
    obtain ⟨k, hk, rfl, hb⟩ := hrel
    by_cases hlt : k + 1 < l.length
    · obtain ⟨b1, o1, rfl, hc1, hs1⟩ := hcs k (by omega)
      obtain ⟨b1', o1', e1, hc2, hs2⟩ := hcs (k + 1) hlt
      cases e1
      have hw1 := cell_below hb hc1
      have hw2 := cell_below hb hc2
      have hlI : (k : Int) + 1 < (l.length : Int) := by omega
      have hlI2 : (k : Int) < (l.length : Int) := by omega
      have hlI3 : (0 : Int) ≤ (k : Int) + 1 := by omega
      have hlI4 : (0 : Int) ≤ (k : Int) := by omega
      have h3 := HI.out k hlt hlt
      clear hc1 hs1 hc2 hs2
      rcases bl_tri l[k].toList l[k + 1].toList with ⟨hy1, hy2, hy3, hy4⟩ | ⟨hy1, _⟩ | ⟨hy1, _⟩
      · clear h3
        go_wp2
        go_quiet (fail)
        go_wp2
        go_roundw
        case rel => exact ⟨k + 1, by omega, by go_num, below_drewN hb _⟩
        case measure => simp [intOf]; omega
      · rw [hy1] at h3; cases h3
      · rw [hy1] at h3; cases h3
    · have hlI : ¬ ((k : Int) + 1 < (l.length : Int)) := by omega
      go_wp2
      go_ret
      exact ⟨rfl, hb⟩
end Go.Proofs.Ythpjinfkagllfaa
