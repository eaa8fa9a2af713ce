/- Decimal: the reference's digits one by one, the program's strconv.FormatInt: both are the decimal numeral of the number. Condition: the table internal/strconv.uint64pow10 as the row lists it. -/
import Derived.Test.YtinmmbnlflmobaaGreatDoorA
import Derived.Test.YtinmmbnlflmobaaGreatDoorFd
import Derived.Test.YtinmmbnlflmobaaGreatDoorSh
import Derived.Lib.LaidU8
import Derived.Lib.SmallJoins
import Derived.Deep.Onto
import Derived.Test.YtinmmbnlflmobaaGreatDoorRows
namespace Go.Proofs.YtinmmbnlflmobaaGreatDoor
open Go.RowKit

/-- The digits of m, none for 0. -/
def digs (m : Nat) : List UInt8 := if m = 0 then [] else Lib.decDigits m
theorem digs_step {m : Nat} (h : m ≠ 0) : digs m = digs (m / 10) ++ [UInt8.ofNat (48 + m % 10)] := by
  unfold digs
  rw [if_neg h, Lib.decDigits]
  by_cases h2 : m < 10
  · rw [dif_pos h2, if_pos (by omega), Nat.mod_eq_of_lt h2]; rfl
  · rw [dif_neg h2, if_neg (by omega)]
theorem digs_len : ∀ (k m : Nat), m < 10 ^ k → (digs m).length ≤ k
  | 0, m, h => by simp at h; simp [digs, h]
  | k + 1, m, h => by
    by_cases h0 : m = 0
    · simp [digs, h0]
    · rw [digs_step h0]
      have := digs_len k (m / 10) (by rw [Nat.pow_succ] at h; omega)
      simp; omega
theorem digs_nil {m : Nat} (h : digs m = []) : m = 0 := by
  by_cases h0 : m = 0
  · exact h0
  · rw [digs_step h0] at h; simp at h
theorem itoa_neg {n : Int} (h : n < 0) : Lib.itoa n = 45 :: digs n.natAbs := by
  unfold Lib.itoa digs; rw [if_pos h, if_neg (by omega)]
theorem itoa_pos {n : Int} (h : 0 < n) : Lib.itoa n = digs n.natAbs := by
  unfold Lib.itoa digs; rw [if_neg (by omega), if_neg (by omega), show n.toNat = n.natAbs by omega]
theorem itoa_zero : Lib.itoa 0 = [48] := by
  unfold Lib.itoa; rw [if_neg (by omega)]; exact Lib.decDigits_one (by decide)
theorem itoa_len {n : Int} (h0 : -9223372036854775808 ≤ n) (h1 : n ≤ 9223372036854775807) : (Lib.itoa n).length ≤ 20 := by
  have hd := digs_len 19 n.natAbs (by omega)
  by_cases hn : n < 0
  · rw [itoa_neg hn]; simp; omega
  · by_cases hz : n = 0
    · subst hz; rw [itoa_zero]; decide
    · rw [itoa_pos (by omega)]; omega

/-- The table of powers of ten, as the row lists it. -/
def TabP (w : World) : Prop := Lib.TabIs Tryz.prog w "internal/strconv.uint64pow10" .u64 Lib.pow10Tab
theorem TabP.below {w w' : World} (h : TabP w) (hb : Below w.heap.size w w') : TabP w' := Go.Joins.tab_stays (B := w.heap.size) (g := 1) (by kernel_rfl) h hb (Nat.le_refl _)
theorem TabP.of_reads {w : World} (h : Lib.VarReads Tryz.prog w "internal/strconv.uint64pow10" (Lib.tabData .u64 Lib.pow10Tab)) : TabP w := by
  obtain ⟨g, t, cs, fuel, p, hg, ht, hv, hd⟩ := h
  obtain rfl := Option.some.inj ((show Tryz.prog.globalNamed "internal/strconv.uint64pow10" = some 1 by kernel_rfl).symm.trans hg)
  obtain rfl := Option.some.inj ((show (Tryz.prog.globals[1]?).map (·.type) = some 123 by kernel_rfl).symm.trans ht)
  unfold TabP Lib.TabIs
  rw [hv, ← Lib.cells_of_tab (n := 20) Tryz.underlying123 Tryz.underlying61 (by kernel_rfl) (by kernel_rfl) hd]
/-- One variable of a row's list, beside sentinels. -/
theorem readsH {P : Program} {w : World} {l : List (String × DataW Unit)} {n : String} {d : DataW Unit} (h : laidMetH P l w) (hm : (n, d) ∈ l) (hd : d.handleName?.isNone = true) : Lib.VarReads P w n d := by
  unfold laidMetH at h
  split at h
  · exact Lib.laidMet.reads h hm
  · exact Lib.laidMet.reads h.1 (List.mem_filter.2 ⟨hm, hd⟩)
theorem TabP.laid {w : World} {l : List (String × DataW Unit)} (h : laidMetH Tryz.prog l w) (hm : ("internal/strconv.uint64pow10", Rows.laid_internal_strconv_uint64pow10) ∈ l) : TabP w :=
  TabP.of_reads (readsH h hm rfl)
theorem grow_below {w w' : World} (h : ∃ k os, w' = Go.Sort.grow (w.drewN k) os) : Below w.heap.size w w' := by
  obtain ⟨k, os, rfl⟩ := h
  exact ⟨rfl, rfl, rfl, by simp [Go.Sort.grow, World.drewN], fun i hi => by simp [Go.Sort.grow, World.drewN, Array.getElem?_append_left hi]⟩

/-- append([]byte{c}, out...): one arm of a walk. -/
theorem app_pre {ops : Array Oper} {rest : List Oper} {o : Oper} {a : Act} {Q : Exit → Act → World → Prop} {w : World} (hgd : o.guard = none) (s x : Operand)
    (ho : o.op = .call { callee := .builtin .append, args := #[s, x], argTypes := #[22, 22] })
    (B : Nat) (g n cap : Nat) (l : List UInt8) (c : UInt8) (hs : a.eval s = .slice (some ⟨w.heap.size, 0, none⟩) 1 1) (hx : a.eval x = .slice (some ⟨g, 0, none⟩) n cap) (hown : OwnB w B (.slice (some ⟨g, 0, none⟩) n cap) l)
    (hn : l.length ≤ 70368744177664) (hB : B ≤ w.heap.size) (z : Int) (hz : z = c.toNat)
    (h : ∀ g' cap' w', OwnB w' B (.slice (some ⟨g', 0, none⟩) (l.length + 1) cap') (c :: l) → (∀ w0, Below B w0 w → Below B w0 w') → wpList Tryz.prog ops Q rest (a.put o.dst (.slice (some ⟨g', 0, none⟩) (l.length + 1) cap')) w') :
    wpList Tryz.prog ops Q (o :: rest) a (w.alloc (.cells #[.int .u8 z] 5)) := by
  subst hz
  obtain ⟨i, hi, hz0, hz1, hz2⟩ := info_parts infoU8
  have hlt : g < w.heap.size := (World.ownsRow.lt hown g rfl).2
  have hnl : n = l.length := by
    obtain ⟨a', c', e, -⟩ := hown.shape
    injection e
  subst hnl
  have hnew : World.ownsRow (w.alloc (.cells #[.int .u8 c.toNat] 5)) w.heap.size 5 1 (.slice (some ⟨w.heap.size, 0, none⟩) 1 1) 1 [.int .u8 c.toNat] :=
    ⟨by simp, .inr ⟨w.heap.size, 1, #[.int .u8 c.toNat], rfl, Nat.le_refl _, heap_alloc_new w _, by omega, by unfold maxLen; omega, by simp, by simp⟩⟩
  refine wpList_append_own _ hgd s x 22 ho w.heap.size 5 i (.int .u8 0) 1 1 Tryz.underlying22 hi hz0 hz1 hz2 rfl (by decide) _ 1 [.int .u8 c.toNat] hs hnew ⟨g, 0, none⟩ l.length cap (Lib.byteCells l) hx (by simp [Lib.byteCells]) ?_ ?_ (by unfold maxLen; omega) (by omega) (by simp) ?_
  · intro j u hj
    have h1 := World.ownsRow.cells hown (g := g) rfl j u hj
    have : (⟨g, 0, none⟩ : Addr).add j = ⟨g, j, none⟩ := by unfold Addr.add; split <;> simp_all
    rw [this] at h1 ⊢
    rw [Below.cell ((Below.refl w.heap.size w).alloc (Nat.le_refl _) _) (by exact hlt)]
    exact h1
  · intro u hu
    obtain ⟨b, -, rfl⟩ := List.mem_map.1 hu
    rfl
  · intro v' w' hown' hgrow _
    obtain ⟨g', cap', rfl⟩ : ∃ g cap, v' = .slice (some ⟨g, 0, none⟩) (1 + l.length) cap := by
      rcases hown'.2 with ⟨_, h0⟩ | ⟨g, cap, cur, hv, _⟩
      · omega
      · exact ⟨g, cap, hv⟩
    have e : 1 + l.length = l.length + 1 := by omega
    rw [e] at hown' ⊢
    refine h g' cap' w' ?_ ?_
    · unfold OwnB
      exact (World.ownsRow.mono hown' hB)
    · intro w0 hb
      have h2 : Below w.heap.size w w' := ⟨hgrow.os, hgrow.tape, hgrow.output, Nat.le_trans (by simp) hgrow.size, fun k hk => (hgrow.block k (by simp; omega) (by intro e; have := Option.some.inj e; simp at this; omega)).trans (Below.heap_alloc w _ k hk)⟩
      exact hb.trans (h2.mono hB)

theorem tdiv_abs (k : Int) : (k.tdiv 10).natAbs = k.natAbs / 10 := by rw [Int.natAbs_tdiv]; rfl
theorem tmod_abs (k : Int) : (k.tmod 10).natAbs = k.natAbs % 10 := by rw [Int.natAbs_tmod]; rfl

set_option maxHeartbeats 2000000 in
set_option maxRecDepth 20000 in
theorem l01Dec_any (n : Int) (w : World) (h0 : -9223372036854775808 ≤ n) (h1 : n ≤ 9223372036854775807) :
    Calls Tryz.prog 90 #[.int .i64 n] w fun e w' => e = .returned (.string ⟨(Lib.itoa n).toArray⟩) ∧ Below w.heap.size w w' := by
  have Hlen := digs_len 19 n.natAbs (by omega)
  have Hb0 := Lib.hid ((Below.refl w.heap.size w).alloc (Nat.le_refl _) (.cells #[] 5))
  have Hown := Lib.hid (OwnB.made w w.heap.size (Nat.le_refl _))
  go_enter Tryz.func90, Tryz.ntmps90
  go_wp2
  go_loopw [3, 4] (fun out k wr => ∃ (i : Int) (l : List UInt8) (g cap : Nat), -9223372036854775808 ≤ i ∧ i ≤ 9223372036854775807 ∧ k = .int .i64 i ∧ out = .slice (some ⟨g, 0, none⟩) l.length cap ∧ OwnB wr w.heap.size out l ∧ Hid (digs n.natAbs = digs i.natAbs ++ l) ∧ Below w.heap.size w wr) (fun _ k _ => (intOf k).natAbs)
  case atStart => exact ⟨n, [], _, _, h0, h1, rfl, rfl, Hown.out, Lib.hid (by simp), Hb0.out⟩
  case round =>
    obtain ⟨i, l, g, cap, hi0, hi1, rfl, rfl, hown, hd, hb⟩ := hrel
    have HB := Lib.hid hb
    have hbs := hb.size
    have hll : l.length ≤ 19 := by have := congrArg List.length hd.out; simp at this; omega
    have HO := Lib.hid hown
    clear hb hown Hown Hb0
    by_cases hz : i = 0
    · subst hz
      have hd0 : digs n.natAbs = l := by have := hd.out; simpa [digs] using this
      by_cases hl0 : l.length = 0
      · have hn0 : n = 0 := by have := digs_nil (hd0.trans (List.eq_nil_of_length_eq_zero hl0)); omega
        go_wp2
        go_ret
        subst hn0
        rw [itoa_zero]
        exact ⟨rfl, HB.out⟩
      · have HC := HO.out.conv
        by_cases hneg : n < 0
        · have hcat := ba_append [45] l
          go_wp2
          go_ret
          rw [itoa_neg hneg, hd0]
          exact ⟨rfl, HB.out⟩
        · have hn0 : n ≠ 0 := fun e => by subst e; rw [show Int.natAbs 0 = 0 from rfl] at hd0; simp [digs] at hd0; subst hd0; simp at hl0
          go_wp2
          go_ret
          rw [itoa_pos (by omega), hd0]
          exact ⟨rfl, HB.out⟩
    · have hstep := Lib.hid (digs_step (m := i.natAbs) (by omega))
      have hm := tmod_abs i
      have hq := tdiv_abs i
      have hzz : ∀ d : Nat, d < 10 → ((UInt8.ofNat (48 + d)).toNat : Int) = 48 + (d : Int) := by
        have hall : ∀ d : Fin 10, ((UInt8.ofNat (48 + d.val)).toNat : Int) = 48 + (d.val : Int) := by decide +kernel
        exact fun d hd => hall ⟨d, hd⟩
      have hlt := Nat.mod_lt i.natAbs (show 10 > 0 by decide)
      have hzn := hzz _ hlt
      by_cases hneg : i.tmod 10 < 0
      · go_wp2_with (at_builtin; refine app_pre rfl _ _ rfl w.heap.size g l.length cap l (UInt8.ofNat (48 + i.natAbs % 10)) rfl rfl HO.out (by omega) hbs _ (by rw [hzn]; omega) ?_; intro g2 cap2 w2 hown2 hbel2)
        go_roundw
        case rel => exact ⟨i.tdiv 10, UInt8.ofNat (48 + i.natAbs % 10) :: l, g2, cap2, by omega, by omega, rfl, rfl, hown2, Lib.hid (by rw [hd.out, hstep.out, hq]; simp), hbel2 _ HB.out⟩
        case measure => simp only [intOf]; omega
      · go_wp2_with (at_builtin; refine app_pre rfl _ _ rfl w.heap.size g l.length cap l (UInt8.ofNat (48 + i.natAbs % 10)) rfl rfl HO.out (by omega) hbs _ (by rw [hzn]; omega) ?_; intro g2 cap2 w2 hown2 hbel2)
        go_roundw
        case rel => exact ⟨i.tdiv 10, UInt8.ofNat (48 + i.natAbs % 10) :: l, g2, cap2, by omega, by omega, rfl, rfl, hown2, Lib.hid (by rw [hd.out, hstep.out, hq]; simp), hbel2 _ HB.out⟩
        case measure => simp only [intOf]; omega

theorem implDecimal_any (n : Int) (w : World) (h0 : -9223372036854775808 ≤ n) (h1 : n ≤ 9223372036854775807) (ht : TabP w) :
    Calls Tryz.prog 23 #[.int .i64 n] w fun e w' => e = .returned (.string ⟨(Lib.itoa n).toArray⟩) ∧ Below w.heap.size w w' := by
  go_enter Tryz.func23, Tryz.ntmps23
  go_wp2_with fail
  refine (Tryz.strconv_FormatInt_10 n h0 h1 _ ht).mono ?_
  rintro e w1 ⟨rfl, hb1⟩
  have hb2 := grow_below hb1
  go_wp2
  go_ret
  exact ⟨rfl, hb2⟩
end Go.Proofs.YtinmmbnlflmobaaGreatDoor
