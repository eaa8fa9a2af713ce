/- The drawers' source: next, pick, one, text. Condition: few choices so far. -/
import Derived.Test.YtinmmbnlflmobaaGreatDoorGz
import Derived.Test.YtinmmbnlflmobaaGreatDoorW
import Derived.Laws.Shifts
import Derived.Laws.Bits64b
namespace Go.Proofs.YtinmmbnlflmobaaGreatDoor
open Go.RowKit
/-- A source in block g: its bytes lie in another block. -/
def SrcW (w : World) (g : Nat) (bs : List UInt8) (k : Nat) : Prop := ∃ a c sd, w.heap[g]? = some (.cells #[.slice a bs.length c, .int .i64 (k : Int), .int .u64 sd] 63 (0, 0)) ∧
  SlR w 1 (.slice a bs.length c) bs.length (bs.map fun b => Value.int .u8 b.toNat) ∧ (bs ≠ [] → ∀ p, a = some p → p.block < g) ∧ bs.length ≤ 5000
theorem SrcW.lt {w : World} {g bs k} (h : SrcW w g bs k) : g < w.heap.size := by obtain ⟨a, c, sd, h, _⟩ := h; exact (Array.getElem?_eq_some_iff.1 h).1
theorem SrcW.below {w w' : World} {g bs k} (h : SrcW w g bs k) (hb : Below w.heap.size w w') : SrcW w' g bs k := by
  have hl := h.lt
  obtain ⟨a, c, sd, h1, h2, h3, h4⟩ := h
  exact ⟨a, c, sd, (hb.block g hl).trans h1, h2.below hb, h3, h4⟩
/-- Blocks behind the source may turn. -/
theorem SrcW.low {w w' : World} {g bs k} (h : SrcW w g bs k) (hb : Below (g + 1) w w') : SrcW w' g bs k := by
  obtain ⟨a, c, sd, h1, h2, h3, h4⟩ := h
  refine ⟨a, c, sd, (hb.block g (Nat.lt_succ_self g)).trans h1, ?_, h3, h4⟩
  obtain ⟨q1, a', c', e, q2, q3, q4⟩ := h2
  injection e with e1 e2 e3
  subst e1; subst e3
  refine ⟨q1, a, c, rfl, q2, q3, fun j u hj => ?_⟩
  obtain ⟨b, off, rfl, hc⟩ := q4 j u hj
  refine ⟨b, off, rfl, ?_⟩
  have hlt : b < g := h3 (by rintro rfl; simp at hj) _ rfl
  rw [hb.cell (p := ⟨b, off + j, none⟩) (by show b < g + 1; omega)]
  exact hc
theorem Kept.set_new {lo hi : Nat} {w w1 : World} {b i : Nat} {u : Value} (h : Kept lo hi w w1) (hb : w.heap.size ≤ b) : Kept lo hi w (w1.setCell ⟨b, i, none⟩ u) :=
  ⟨h.os, h.tape, h.output, by simpa [World.setCell] using h.size, fun k hk ho => (Below.heap_setCell _ _ _ _ (by show k ≠ b; omega)).trans (h.block k hk ho)⟩
theorem cell_newD (w : World) (cs : Array Value) (t : TypeId) (i : Nat) (x : Value) (h : cs[i]? = some x) : (w.alloc (.cells cs t)).cell? ⟨w.heap.size, i, none⟩ = some x := by
  have h2 := heap_alloc_new w (.cells cs t)
  simp only [World.cell?, h2]
  exact h
theorem Kept.then_new {lo hi r s : Nat} {w w1 w2 : World} (h : Kept lo hi w w1) (h2 : Kept r s w1 w2) (hr : w.heap.size ≤ r) : Kept lo hi w w2 :=
  ⟨h2.os.trans h.os, h2.tape.trans h.tape, h2.output.trans h.output, Nat.le_trans h.size h2.size, fun k hk ho => (h2.block k (Nat.lt_of_lt_of_le hk h.size) (.inl (by omega))).trans (h.block k hk ho)⟩
/-- A []string that is built here. -/
theorem strs_built (w : World) (l : List ByteArray) (h : l.length ≤ 1000) (hs : ∀ s ∈ l, s.size ≤ maxLen := by decide) : Strs (w.alloc (.cells (l.map Value.string).toArray 9)) (.slice (some ⟨w.heap.size, 0, none⟩) l.length l.length) l :=
  ⟨⟨by simp, _, _, rfl, Nat.le_refl _, by unfold maxLen; omega, fun j u hj => ⟨_, _, rfl, by
    have := cell_newD w (l.map Value.string).toArray 9 j u (by simpa using hj)
    simpa using this⟩⟩, hs⟩
/-- Where the bytes lie. -/
theorem SlR.set {w : World} {g i : Nat} {u : Value} {sz n : Nat} {a : Option Addr} {c : Nat} {xs : List Value} (h : SlR w sz (.slice a n c) n xs) (hg : xs ≠ [] → ∀ p, a = some p → p.block ≠ g) : SlR (w.setCell ⟨g, i, none⟩ u) sz (.slice a n c) n xs := by
  obtain ⟨h1, a', c', e, h2, h3, h4⟩ := h
  injection e with e1 e2 e3
  subst e1; subst e3
  refine ⟨h1, a, c, rfl, h2, h3, fun j v hj => ?_⟩
  obtain ⟨b, off, rfl, hc⟩ := h4 j v hj
  refine ⟨b, off, rfl, ?_⟩
  have hne := hg (by rintro rfl; simp at hj) _ rfl
  have hb : (w.setCell ⟨g, i, none⟩ u).heap[b]? = w.heap[b]? := Below.heap_setCell _ _ _ _ (by show b ≠ g; exact hne)
  unfold World.cell? at hc ⊢
  rw [show (⟨b, off + j, none⟩ : Addr).block = b from rfl] at hc ⊢
  rw [hb]
  exact hc
theorem cell_keptD {w w' : World} {lo hi : Nat} {a : Addr} {x : Value} (hk : Kept lo hi w w') (h : w.cell? a = some x) (hd : a.block < lo ∨ hi ≤ a.block) : w'.cell? a = some x := by
  have hb := hk.block a.block (World.block_lt_of_cell? _ _ h) hd
  unfold World.cell? at h ⊢; rw [hb]; exact h
theorem and255 (x : Int) : ∃ r : Nat, r ≤ 255 ∧ bits .and .u64 x 255 = (r : Int) := by
  refine ⟨(BitVec.ofInt 64 x).toNat &&& 255, Nat.and_le_right, ?_⟩
  have e : BitVec.ofInt 64 x = BitVec.ofInt 64 (((BitVec.ofInt 64 x).toNat : Nat) : Int) := by rw [BitVec.ofInt_natCast, BitVec.ofNat_toNat, BitVec.setWidth_eq]
  have := bits_and_u64_nat (BitVec.ofInt 64 x).toNat 255 (BitVec.ofInt 64 x).isLt (by omega)
  rw [← this]
  unfold bits
  rw [show IntKind.u64.bits = 64 from rfl, ← e]
  rfl
theorem wrap64_small (r : Nat) (h : r ≤ 255) : wrap64 (r : Int) = (r : Int) := by unfold wrap64; omega
/-- Behind the two stores. -/
theorem SrcW.stored {w : World} {g k : Nat} {bs : List UInt8} (h : SrcW w g bs k) (sd : Int) (q q' : Nat) :
    SrcW ((((w.drewN q).setCell ⟨g, 1, none⟩ (.int .i64 ((k : Int) + 1))).setCell ⟨g, 2, none⟩ (.int .u64 sd)).drewN q') g bs (k + 1) ∧
    Kept g (g + 1) w ((((w.drewN q).setCell ⟨g, 1, none⟩ (.int .i64 ((k : Int) + 1))).setCell ⟨g, 2, none⟩ (.int .u64 sd)).drewN q') := by
  have hd := h.below (below_drewN (Below.refl _ _) q)
  obtain ⟨a, c, sd0, h1, h2, h3, h4⟩ := hd
  constructor
  · have hx : SrcW (((w.drewN q).setCell ⟨g, 1, none⟩ (.int .i64 ((k : Int) + 1))).setCell ⟨g, 2, none⟩ (.int .u64 sd)) g bs (k + 1) :=
      ⟨a, c, sd, by simpa using src_set (i := 2) (u := .int .u64 sd) (src_set (i := 1) (u := .int .i64 ((k : Int) + 1)) h1), (h2.set fun hx p hp => Nat.ne_of_lt (h3 (by rintro rfl; simp at hx) p hp)).set fun hx p hp => Nat.ne_of_lt (h3 (by rintro rfl; simp at hx) p hp), h3, h4⟩
    exact hx.below (below_drewN (Below.refl _ _) q')
  · exact (((Kept.of_below (below_drewN (Below.refl _ _) q)).trans (kept_setCell (Nat.le_refl _) (Nat.lt_succ_self _) _)).trans (kept_setCell (Nat.le_refl _) (Nat.lt_succ_self _) _)).trans (Kept.of_below (below_drewN (Below.refl _ _) q'))
attribute [local irreducible] Calls
theorem l00From_any (v : Value) (bs : List UInt8) (w : World) (hv : SlR w 1 v bs.length (bs.map fun b => Value.int .u8 b.toNat)) (hl : bs.length ≤ 5000) :
    Calls Tryz.prog 16 #[v] w fun e w' => e = .returned (.pointer (some ⟨w.heap.size, 0, none⟩)) ∧ SrcW w' w.heap.size bs 0 ∧ Below w.heap.size w w' := by
  obtain ⟨h1, a, c, rfl, h2, h3, h4⟩ := hv
  go_enter Tryz.func16, Tryz.ntmps16
  have hb : Below w.heap.size w (w.alloc (.cells #[.slice a bs.length c, .int .i64 0, .int .u64 0] 63)) := (Below.refl _ _).alloc (Nat.le_refl _) _
  have hr : SlR w 1 (.slice a bs.length c) bs.length (bs.map fun b => Value.int .u8 b.toNat) := ⟨h1, a, c, rfl, h2, h3, h4⟩
  go_wp2
  go_ret
  refine ⟨rfl, ⟨a, c, 0, heap_alloc_new w _, hr.below hb, fun hne p hp => ?_, hl⟩, hb⟩
  obtain ⟨x, xs, rfl⟩ := List.exists_cons_of_ne_nil hne
  obtain ⟨b, off, e, hc⟩ := h4 0 (.int .u8 x.toNat) (by simp)
  rw [hp] at e
  cases e
  exact cell_lt hc
set_option maxHeartbeats 1000000 in
theorem next_any (g : Nat) (bs : List UInt8) (k : Nat) (w : World) (hs : SrcW w g bs k) (hk : k ≤ 1000000) :
    Calls Tryz.prog 50 #[.pointer (some ⟨g, 0, none⟩)] w fun e w' => ∃ r : Nat, e = .returned (.int .i64 (r : Int)) ∧ r ≤ 255 ∧ SrcW w' g bs (k + 1) ∧ Kept g (g + 1) w w' := by
  have HS := Lib.hid hs
  obtain ⟨a, c, sd, hbox, hcode, hoff, hlen⟩ := hs
  obtain ⟨c0, z0⟩ := src_cell (i := 0) (v := .slice a bs.length c) hbox rfl
  obtain ⟨c1, z1⟩ := src_cell (i := 1) (v := .int .i64 (k : Int)) hbox rfl
  obtain ⟨c2, z2⟩ := src_cell (i := 2) (v := .int .u64 sd) hbox rfl
  by_cases hlt : k < bs.length
  · go_enter Tryz.func50, Tryz.ntmps50
    obtain ⟨b1, o1, rfl, hc1, -⟩ : ∃ b off, a = some ⟨b, off, none⟩ ∧ w.cell? ⟨b, off + k, none⟩ = some (.int .u8 (bs[k].toNat : Int)) ∧ bs.length ≤ c := by
      obtain ⟨_, a', c', e, h2, _, h4⟩ := hcode
      injection e with e1 e2 e3
      subst e1; subst e3
      obtain ⟨b, off, e, hc⟩ := h4 k (.int .u8 (bs[k].toNat : Int)) (by simp [hlt])
      exact ⟨b, off, e, hc, h2⟩
    go_wp2_with fail
    go_quiet (fail)
    go_wp2_with fail
    go_quiet (fail)
    go_wp2_with fail
    go_quiet (fail)
    go_wp2
    go_ret
    obtain ⟨e1, e2⟩ := HS.out.stored _ _ _
    have hr := bs[k].toNat_lt
    exact ⟨bs[k].toNat, ret_int (by unfold wrap64; omega), by omega, e1, e2⟩
  · go_enter Tryz.func50, Tryz.ntmps50
    go_wp2_with fail
    go_quiet (fail)
    go_wp2_with fail
    go_quiet (fail)
    go_wp2
    go_ret
    obtain ⟨e1, e2⟩ := HS.out.stored _ _ _
    obtain ⟨r, hr, he⟩ := and255 (IntKind.u64.wrap (IntKind.u64.wrap (IntKind.u64.wrap (sd * 6364136223846793005)) + 1442695040888963407) / 1099511627776)
    exact ⟨r, ret_int (by rw [he]; exact wrap64_small r hr), hr, e1, e2⟩
set_option maxHeartbeats 1000000 in
theorem pick_any (g : Nat) (bs : List UInt8) (k : Nat) (n : Nat) (z : Int) (w : World) (hs : SrcW w g bs k) (hk : k ≤ 900000) (hz : z = (n : Int)) (hn : n ≤ 200) :
    Calls Tryz.prog 33 #[.pointer (some ⟨g, 0, none⟩), .int .i64 z] w fun e w' => ∃ r k' : Nat, e = .returned (.int .i64 (r : Int)) ∧ (r < n ∨ r = 0) ∧ k' ≤ k + 2 ∧ SrcW w' g bs k' ∧ Kept g (g + 1) w w' := by
  subst hz
  by_cases h1 : n ≤ 1
  · go_enter Tryz.func33, Tryz.ntmps33
    go_wp2
    go_ret
    exact ⟨0, k, rfl, .inr rfl, by omega, hs, Kept.refl _ _ _⟩
  · have h2 : ¬ ((n : Int) ≤ 1) := by omega
    have h3 : ¬ (200 < (n : Int)) := by omega
    have h4 : ¬ ((n : Int) = 0) := by omega
    go_enter Tryz.func33, Tryz.ntmps33
    go_wp2_with fail
    refine (next_any g bs k _ hs (by omega)).mono ?_
    rintro e w1 ⟨r, rfl, hr, hs1, hk1⟩
    go_wp2
    go_ret
    exact ⟨r % n, k + 1, ret_int (by simp), .inl (Nat.mod_lt _ (by omega)), by omega, hs1, hk1⟩
theorem one_any (g : Nat) (bs : List UInt8) (k : Nat) (n : Nat) (z : Int) (w : World) (hs : SrcW w g bs k) (hk : k ≤ 900000) (hz : z = (n : Int)) (hn : n ≤ 200) :
    Calls Tryz.prog 29 #[.pointer (some ⟨g, 0, none⟩), .int .i64 z] w fun e w' => ∃ (r : Bool) (k' : Nat), e = .returned (.bool r) ∧ k' ≤ k + 2 ∧ SrcW w' g bs k' ∧ Kept g (g + 1) w w' := by
  subst hz
  go_enter Tryz.func29, Tryz.ntmps29
  go_wp2_with fail
  refine (pick_any g bs k n _ _ hs hk rfl hn).mono ?_
  rintro e w1 ⟨r, k', rfl, -, hk', hs1, hk1⟩
  go_wp2
  go_ret
  exact ⟨_, k', rfl, hk', hs1, hk1⟩
set_option maxHeartbeats 1000000 in
set_option maxRecDepth 20000 in
theorem text_any (g : Nat) (bs : List UInt8) (k : Nat) (v : Value) (l : List ByteArray) (w : World) (hs : SrcW w g bs k) (hk : k ≤ 900000) (hv : Strs w v l) (hl : 1 ≤ l.length) (hl2 : l.length ≤ 200) (hg : ∀ a n c, v = .slice a n c → ∀ p, a = some p → p.block ≠ g) :
    Calls Tryz.prog 31 #[.pointer (some ⟨g, 0, none⟩), v] w fun e w' => ∃ (s : ByteArray) (k' : Nat), e = .returned (.string s) ∧ s ∈ l ∧ k' ≤ k + 2 ∧ SrcW w' g bs k' ∧ Kept g (g + 1) w w' := by
  obtain ⟨a, c, rfl, h1, h2, hcs⟩ := hv.shape
  have hgp := hg _ _ _ rfl
  unfold maxLen at h2
  clear hg
  go_enter Tryz.func31, Tryz.ntmps31
  go_wp2_with fail
  refine (pick_any g bs k l.length _ _ hs hk rfl hl2).mono ?_
  rintro e w1 ⟨r, k', rfl, hr, hk', hs1, hk1⟩
  have hrl : r < l.length := by omega
  obtain ⟨b, off, rfl, hc, hsz⟩ := hcs r hrl
  have hc1 := cell_keptD hk1 hc (by have := hgp _ rfl; show b < g ∨ g + 1 ≤ b; have : b ≠ g := this; omega)
  clear hcs hv hs
  have HS1 := Lib.hid hs1
  have HK1 := Lib.hid hk1
  clear hs1 hk1 hc
  go_wp2
  go_ret
  exact ⟨l[r], k', rfl, List.getElem_mem _, hk', HS1.out, HK1.out⟩
end Go.Proofs.YtinmmbnlflmobaaGreatDoor
