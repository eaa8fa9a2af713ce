/- DerivedWords of the program: a set of words in a map, ranged over and sorted. Conditions: the readings; MaxLen's cell. -/
import Derived.Test.YtgefgdkejenhnaaGreatDoorDvD
import Derived.Test.YtgefgdkejenhnaaGreatDoorDvT
import Derived.Maps.RangeWalk
import Derived.Maps.OwnSet
import Derived.Sort.KeysCollected
import Derived.Sort.OwnSorted
import Derived.Sort.Walk0
set_option linter.unusedSimpArgs false
namespace Go.Proofs.YtgefgdkejenhnaaGreatDoor
open Go.RowKit
abbrev setE : Value → Option (DataW Unit × List MemPlace) := unitElem
/-- The map as the visitor keeps it: in block mb, its variable in block cb. -/
structure DwI (mb cb : Nat) (L : Told) (O : Nat → Prop) (w : World) : Prop where
  blk : ∀ k, O k ↔ k = mb
  ne : mb ≠ cb
  cell : w.cell? ⟨cb, 0, none⟩ = some (.map (some mb))
  map : ∃ n D, w.ownsMap Tryz.prog 9 setE mb n D ∧ n ≤ L.length ∧ ∀ s : List UInt8, Go.Maps.has D (.string s) = decide (s ∈ L.map fun d => d.1.2.data.toList)
attribute [local irreducible] Calls
set_option maxHeartbeats 2000000 in
theorem dw1_any (mb cb n : Nat) (D : DataW Unit) (s : ByteArray) (a : Option Addr) (l c : Nat) (t : ByteArray) (w : World) (hc : w.cell? ⟨cb, 0, none⟩ = some (.map (some mb))) (hm : w.ownsMap Tryz.prog 9 setE mb n D) (hn : n < maxLen) (ht : t.size ≤ maxLen) :
    Calls Tryz.prog 42 #[.agg #[.string s, .slice a l c], .string t, .pointer (some ⟨cb, 0, none⟩)] w fun e w' => e = .returned (.tuple #[]) ∧ w'.ownsMap Tryz.prog 9 setE mb (n + 1) (D.put (.string t.data.toList) (.agg [])) ∧ w.grownBy w' (some mb) := by
  have K : Go.Maps.Keyed Tryz.prog 9 := Go.Maps.string_keyed Tryz.underlying9
  have hc2 := cell_alloc (.cells #[.string s, .slice a l c] 56) hc
  have hm2 := hm.alloc (.cells #[.string s, .slice a l c] 56)
  obtain ⟨w3, hup, hm3, hg3⟩ := hm2.update K Tryz.underlying69 hn (Go.WideMaps.keyOf_string_mk Tryz.underlying9 (s := t) ht) (unitElem_mk (H := Unit))
  have HM3 := Lib.hid hm3
  have HG3 := Lib.hid ((World.grownBy_alloc w (.cells #[.string s, .slice a l c] 56) (some mb)).trans hg3)
  clear hm hm2 hm3 hg3 hc
  go_enter Tryz.func42, Tryz.ntmps42
  go_wp2
  go_end0
  exact ⟨rfl, HM3.out, HG3.out⟩
theorem FrO.grown {O : Nat → Prop} {w w' : World} {b : Nat} (h : w.grownBy w' (some b)) (hO : O b) : FrO O O w w' :=
  ⟨h.os, h.tape, h.output, h.size, fun k hk hn => h.block k hk (fun e => hn (by rw [Option.some.inj e]; exact hO)), fun _ h => .inl h⟩
theorem dwVisits (mb cb : Nat) : Visits (.func (.func 42) #[] #[.pointer (some ⟨cb, 0, none⟩)]) (DwI mb cb) := by
  refine ⟨fun L O w h k hk => ?_, fun L O w w' h hb => ?_, ⟨_, _, rfl, Tryz.call42, fun L O w s n t b h hb hnO hnL hn2 hL ht => ?_⟩⟩
  · obtain ⟨n, D, hm, -⟩ := h.map
    rw [(h.blk k).1 hk]; exact hm.lt
  · obtain ⟨n, D, hm, hn, hD⟩ := h.map
    exact ⟨h.blk, h.ne, cell_below hb h.cell, n, D, hm.kept (row := none) ⟨hb.os, hb.tape, hb.output, hb.size, fun k hk _ => hb.block k hk⟩ (by simp), hn, hD⟩
  · obtain ⟨m, D, hm, hn, hD⟩ := h.map
    have hcb := World.block_lt_of_cell? _ _ h.cell
    refine (dw1_any mb cb m D s _ n.length n.length t w h.cell hm (by unfold maxLen; omega) (long_maxD ht)).mono ?_
    rintro e w' ⟨rfl, hm2, hg⟩
    refine ⟨rfl, O, ⟨h.blk, h.ne, ?_, m + 1, _, hm2, by simp; omega, fun x => ?_⟩, FrO.grown hg ((h.blk mb).2 rfl)⟩
    · have := hg.block cb hcb (fun e => h.ne (Option.some.inj e).symm)
      rw [← h.cell]; simp only [World.cell?, this]
    · by_cases hx : x = t.data.toList
      · subst hx
        rw [Go.Maps.has_put_same hm.isMap (by trivial)]
        simp
      · rw [Go.Maps.has_put_other (by intro e; injection e with e; exact hx e), hD x]
        simp [hx]
def dlB (l : List ByteArray) : List (List UInt8) := l.map fun s => s.data.toList
theorem dlB_nodup {l : List ByteArray} (h : Inc l) : (dlB l).Nodup := by
  refine List.pairwise_map.2 (h.imp fun {a b} hab e => ?_)
  rw [ba_inj e, blIrr] at hab; cases hab
theorem dlB_sorted {l : List ByteArray} (h : Inc l) : (dlB l).mergeSort leB = dlB l := by
  refine List.mergeSort_of_pairwise (List.pairwise_map.2 (h.imp fun {a b} hab => ?_))
  rw [bytesLess_eq, decide_eq_true_eq, Lib.toList_data, Lib.toList_data] at hab
  simp only [leB, decide_eq_true_eq]
  exact List.le_of_lt hab
theorem dlB_mem {l : List ByteArray} {s : ByteArray} : s.data.toList ∈ dlB l ↔ s ∈ l := by
  unfold dlB
  rw [List.mem_map]
  exact ⟨fun ⟨y, hy, e⟩ => ba_inj e ▸ hy, fun h => ⟨s, h, rfl⟩⟩
theorem keys_perm {w : World} {b n : Nat} {D : DataW Unit} {l : List ByteArray} (hown : w.ownsMap Tryz.prog 9 setE b n D) (hi : Inc l) (h : ∀ s : List UInt8, Go.Maps.has D (.string s) = decide (s ∈ dlB l)) : (dlB l).Perm (strKeys D) := by
  obtain ⟨es, hD, hpw, _⟩ := hown.entries (Go.Maps.string_keyed Tryz.underlying9)
  obtain ⟨es', hD', hko⟩ := hown.keysOf
  obtain rfl : es = es' := by rw [hD] at hD'; simpa using hD'
  subst hD
  refine perm_strKeys hpw (fun p hp => by obtain ⟨v, hv⟩ := hko p hp; obtain ⟨x, _, hx, _⟩ := Go.Maps.keyOf_str Tryz.underlying9 hv; exact ⟨x, hx⟩) (dlB_nodup hi) fun x => ?_
  rw [h x, decide_eq_true_eq]
theorem keys_size {w : World} {b n : Nat} {D : DataW Unit} {l : List ByteArray} (hown : w.ownsMap Tryz.prog 9 setE b n D) (hp : (dlB l).Perm (strKeys D)) : Go.Maps.size D = l.length := by
  obtain ⟨es, hD, _, _⟩ := hown.entries (Go.Maps.string_keyed Tryz.underlying9)
  subst hD
  have := hp.length_eq
  simp [dlB, strKeys] at this
  rw [Go.Maps.size_eq]; omega
theorem told_has {D : DataW Unit} {L : Told} {x : GraD} (hL : L.map Prod.fst = derL x) (h : ∀ s : List UInt8, Go.Maps.has D (.string s) = decide (s ∈ L.map fun d => d.1.2.data.toList)) (s : List UInt8) : Go.Maps.has D (.string s) = decide (s ∈ dlB (allW x)) := by
  rw [h s, decide_eq_decide]
  have e : (L.map fun d => d.1.2.data.toList) = (derL x).map fun d => d.2.data.toList := by rw [← hL, List.map_map]; rfl
  rw [e, List.mem_map]
  unfold dlB
  rw [List.mem_map]
  constructor
  · rintro ⟨d, hd, rfl⟩
    exact ⟨d.2, by rw [allW, setS_mem]; exact List.mem_map.2 ⟨d, hd, rfl⟩, rfl⟩
  · rintro ⟨y, hy, rfl⟩
    rw [allW, setS_mem] at hy
    obtain ⟨d, hd, rfl⟩ := List.mem_map.1 hy
    exact ⟨d, hd, rfl⟩
theorem encStr_dlB (l : List ByteArray) : (dlB l).map Go.Proofs.encStr = l.map Value.string := by
  unfold dlB; rw [List.map_map]; exact List.map_congr_left fun s _ => rfl
set_option maxHeartbeats 8000000 in
set_option maxRecDepth 100000 in
theorem implDerivedWords_any (v : Value) (x : GraD) (w : World) (hv : GraR w v x) (hM : MaxL w) :
    Calls Tryz.prog 9 #[v] w fun e w' => ∃ v', e = .returned (.tuple #[v', .int .i64 (dwE x)]) ∧ StrsW w' w.heap.size w'.heap.size v' (dwV x) ∧ Below w.heap.size w w' := by
  have HV := Lib.hid hv
  obtain ⟨s1, s2, rfl, ha, hs⟩ := hv
  obtain ⟨a1, k1, rfl, -, -, -⟩ := ha.shape
  obtain ⟨a2, k2, rfl, -, -, -⟩ := hs.shape
  have hb0 : Below w.heap.size w (w.alloc (.cells #[.slice a1 x.affixes.length k1, .slice a2 x.stems.length k2] 33)) := (Below.refl _ _).alloc (Nat.le_refl _) _
  have g0 := cell_newi w #[.slice a1 x.affixes.length k1, .slice a2 x.stems.length k2] 33 0 (.slice a1 x.affixes.length k1) rfl
  have g1 := cell_newi w #[.slice a1 x.affixes.length k1, .slice a2 x.stems.length k2] 33 1 (.slice a2 x.stems.length k2) rfl
  have HB0 := Lib.hid hb0
  have HM0 := Lib.hid (hM.below hb0)
  have HV0 := Lib.hid (HV.out.below hb0)
  clear ha hs hM hb0
  go_enter Tryz.func9, Tryz.ntmps9
  go_wp2_with fail
  refine (implValidGrammar_any _ x _ HV0.out HM0.out).mono ?_
  rintro e w1 ⟨rfl, hb1⟩
  have HB1 := Lib.hid (HB0.out.trans (hb1.mono HB0.out.size))
  have HV1 := Lib.hid (HV0.out.below hb1)
  have HM1 := Lib.hid (HM0.out.below hb1)
  have g0 := cell_below hb1 g0
  have g1 := cell_below hb1 g1
  clear hb1
  cases hg : graB x
  · have Hg := Lib.hid (dw_no hg)
    go_wp2
    go_ret2
    exact ⟨_, by rw [Hg.out.2]; rfl, by rw [Hg.out.1]; exact strs_nilD _ _ _, HB1.out⟩
  · have Hg := Lib.hid hg
    have K : Go.Maps.Keyed Tryz.prog 9 := Go.Maps.string_keyed Tryz.underlying9
    have hmm := @run_makeMap Tryz.prog
    have hmf : ∀ (fn : Fn) (first cap : Array Value) (w : World), (Instr.makeFunc fn first cap).run Tryz.prog w = .ok (.func fn first cap) w := fun _ _ _ _ => rfl
    have hbs : Below w1.heap.size w1 ((w1.alloc (.map #[] 0)).alloc (.cells #[.map (some w1.heap.size)] 69)) := ((Below.refl _ _).alloc (Nat.le_refl _) _).alloc (by simp) _
    have hc0 := cell_newi (w1.alloc (.map #[] 0)) #[.map (some w1.heap.size)] 69 0 (.map (some w1.heap.size)) rfl
    rw [World.size_alloc] at hc0
    have HI0 : Hid (DwI w1.heap.size (w1.heap.size + 1) [] (fun k => k = w1.heap.size) ((w1.alloc (.map #[] 0)).alloc (.cells #[.map (some w1.heap.size)] 69))) := Lib.hid ⟨fun _ => Iff.rfl, by omega, hc0, 0, _, (World.ownsMap_made (H := Unit) w1 Tryz.prog 9 setE).alloc _, by simp, fun s => by simp [Go.Maps.has]⟩
    have HBs := Lib.hid hbs
    have g0s := cell_below hbs g0
    have g1s := cell_below hbs g1
    clear hg hc0 hbs
    go_wp2_with fail
    refine (derivations_any (dwVisits w1.heap.size (w1.heap.size + 1)) _ x w1 _ (fun k => k = w1.heap.size) HV1.out HBs.out (graB_okD Hg.out) HM1.out HI0.out (fun k hk => by rw [hk]; exact Nat.le_refl _)).mono ?_
    rintro e w2 ⟨rfl, L, O, hI2, hL, hF, -⟩
    obtain ⟨-, -, hcell, n, D, hm, hn, hD⟩ := hI2
    have HB2 : Hid (Below w.heap.size w w2) := Lib.hid (HB1.out.trans ((HBs.out.trans (hF.below HBs.out.size (fun k hk => by rw [hk]; exact Nat.le_refl _))).mono HB1.out.size))
    have hD2 := told_has hL hD
    have hperm := keys_perm (l := allW x) hm (setS_inc _) hD2
    have hsz := keys_size hm hperm
    have hlen := fun ty => hm.len (t := 69) Tryz.underlying69 ty
    rw [hsz] at hlen
    have HMp := Lib.hid hm
    have HP := Lib.hid hperm
    have HSz := Lib.hid hsz
    have HI : Hid (Inc (allW x)) := Lib.hid (setS_inc _)
    have HAL := Lib.hid (allW_long (graB_okD Hg.out))
    have hmlt := hm.lt
    clear hF hL hD hD2 hperm hsz hm g0s g1s g0 g1 hmf hn
    by_cases h200 : (allW x).length ≤ 200
    · have h200I : ¬ ((200 : Int) < ((allW x).length : Int)) := by omega
      have HE := Lib.hid (dw_yes Hg.out h200)
      obtain ⟨A, hA⟩ : ∃ A, allW x = A := ⟨_, rfl⟩
      have HI : Hid (Inc A) := Lib.hid (hA ▸ HI.out)
      rw [hA] at hlen HP HSz HAL HE h200 h200I
      clear hA
      have HO0 := Lib.hid (OwnS.made w2 w2.heap.size (Nat.le_refl _))
      have hc2 := cell_alloc (.cells #[] 9) hcell
      go_wp2_with (first
        | (at_range; refine wpList_range_own _ rfl _ 69 rfl 9 71 K Tryz.underlying69 setE w1.heap.size n _ rfl (HMp.out.alloc _) ?_; intro w0 hrg0 hg0 hs0)
        | fail)
      go_frame
      rw [World.size_alloc] at hrg0 hs0 ⊢
      have hz0 : w2.heap.size ≤ w0.heap.size := by omega
      have HR0 := Lib.hid hrg0
      have HOr : Hid (w0.ownsRow w2.heap.size 9 1 (.slice (some ⟨w2.heap.size, 0, none⟩) 0 0) 0 []) := Lib.hid (World.ownsRow.kept HO0.out hg0 (.inr (by simp [Value.ownBlock])))
      have HBr : Hid (Below w2.heap.size w2 w0) := Lib.hid (((Below.refl w2.heap.size w2).alloc (Nat.le_refl _) (.cells #[] 9)).grown hg0 (by simp) (fun j hj => by cases hj))
      have HSz2 : Go.Maps.size D ≤ A.length := Nat.le_of_eq HSz.out
      clear hrg0 hg0 hs0 HO0 hc2 hlen hz0
      go_loopw [5] (fun v wr => ∃ (left : Lit → Bool) (cnt : Nat) (ss : List (List UInt8)), wr.ranges Tryz.prog 9 setE w1.heap.size (w2.heap.size + 1) n D left cnt ∧ ss.length + cnt ≤ A.length ∧ wr.ownsRow w2.heap.size 9 1 v ss.length (ss.map Go.Proofs.encStr) ∧ v ≠ .slice none 0 0 ∧ Collected D left ss ∧ Below w2.heap.size w2 wr) (fun _ wr => wr.rangeLeft w1.heap.size (w2.heap.size + 1))
      case atStart => exact ⟨_, _, [], HR0.out, by simpa using HSz2, HOr.out, by simp, Collected.start D, HBr.out⟩
      case round =>
        clear HR0 HOr HBr HSz2
        obtain ⟨left, cnt, ss, hrg, hcs, hrow, hnn, hC, hnx⟩ := hrel
        go_wp2_with (first
          | (at_next; refine wpList_next_ranges _ rfl _ rfl 9 K setE Go.Proofs.encStr (fun _ : Unit => Value.agg #[]) (fun key kl hk => by obtain ⟨y, hy, _⟩ := Go.Maps.keyOf_str Tryz.underlying9 hk; exact ⟨y, hy⟩) (fun v y hv => by obtain ⟨rfl, rfl⟩ := unitElem_inv hv; exact ⟨(), rfl⟩) w1.heap.size (w2.heap.size + 1) n _ _ _ rfl hrg ?_ ?_)
          | fail)
        · intro hc0 hl0
          rcases hrow.2 with ⟨hnil, _⟩ | ⟨g, cap, cur, rfl, hbase, hb, h1, h2, h3, h4⟩
          · exact absurd hnil hnn
          have hH := holds_of_block (ss := ss) hb (by simpa using h4)
          have hgl : g < wr.heap.size := (Array.getElem?_eq_some_iff.1 hb).1
          have hps : ss.Perm (strKeys D) := hC.perm hrg.owns K Tryz.underlying9 hl0
          have hms : (ss.mergeSort fun x y => decide (x ≤ y)) = dlB A := by
            have := mergeSort_of_perm (hps.trans HP.out.symm)
            rw [dlB_sorted HI.out] at this
            exact this
          have hcl := Tryz.slices_Sort_string g 0 cap ss wr hH hgl (by omega)
          rw [hms] at hcl
          have HCl := Lib.hid hcl
          have HBn := Lib.hid hnx
          have hlen2 : ss.length = A.length := by have := (hps.trans HP.out.symm).length_eq; simpa [dlB] using this
          have HLn := Lib.hid hlen2
          have HB' := Lib.hid (And.intro hb (And.intro h1 (And.intro h2 h3)))
          clear hH hms hcl hps hC hrg hrow hnx hb h1 h2 h3 h4 hnn hcs hlen2
          go_wp2_with fail
          refine HCl.out.mono ?_
          rintro e w9 ⟨rfl, nn, os, hw9⟩
          have hrw := ownsRow_sorted (w := wr) (base := w2.heap.size) (n := nn) (os := os) (ss := ss) (ts := dlB A) (by simp [dlB, HLn.out]) hbase HB'.out.1 HB'.out.2.1 HB'.out.2.2.1 HB'.out.2.2.2
          rw [← hw9] at hrw
          have hgb := grownBy_sorted (w := wr) (g := g) (n := nn) (os := os) (dlB A).toArray
          rw [← hw9] at hgb
          have HRow := Lib.hid hrw
          have HBe := Lib.hid (HBn.out.grown hgb HBn.out.size (fun j hj => by cases hj; exact hbase))
          clear hw9 hrw hgb
          clear HCl HB'
          go_wp2
          go_ret2
          have hO : OwnS w9 w2.heap.size (.slice (some ⟨g, 0, none⟩) ss.length cap) A := by
            have h := HRow.out
            rw [HLn.out, encStr_dlB] at h
            rw [HLn.out]
            exact h
          refine ⟨_, by rw [HE.out.2]; rfl, ?_, HB2.out.trans (HBe.out.mono HB2.out.size)⟩
          rw [HE.out.1]
          exact (hO.strs (fun s hs => long_maxD (HAL.out s hs))).mono HB2.out.size (Nat.le_refl _)
        · intro y c kl yd w3 cnt2 hkey hlk hv hat hrg2 hlt hg2 hs2 hen
          obtain ⟨y', ey, rfl, hyl⟩ := Go.Maps.keyOf_str Tryz.underlying9 hkey
          obtain rfl : y = y' := encStr_inj ey
          have hrow2 := hrow.kept hg2 (.inr (row_ne_iter hrow hrg).symm)
          have HG2 := Lib.hid hg2
          have hz3 : w2.heap.size ≤ w3.heap.size := Nat.le_trans hnx.size hg2.size
          clear hs2 hg2 ey
          obtain ⟨i0, hi, hz00, hz01, hz02⟩ := info_parts infoStr
          go_wp2_with (first
            | (at_builtin; refine wpList_append_own _ rfl _ _ 27 rfl w2.heap.size 9 i0 (.string ⟨#[]⟩) 1 16 Tryz.underlying27 hi hz00 hz01 hz02 rfl (by decide) _ _ _ rfl (hrow2.alloc _) ⟨w3.heap.size, 0, none⟩ 1 1 [Go.Proofs.encStr y] rfl rfl (cell_one_new _ _ _) (by simp [Value.oneCell', Go.Proofs.encStr]) (by unfold maxLen; omega) (by omega) (by simp; omega) ?_; intro v' w4 hown' hg3 hnil3; go_frame)
            | fail)
          have hrg3 := (hrg2.alloc _).kept hg3 (row_ne_low hrow2 hmlt) (row_ne_iter hrow2 hrg2)
          go_roundw
          case rel =>
            refine ⟨_, cnt2, ss ++ [y], hrg3, by simp; omega, by simpa using hown', fun hv' => by have := (hnil3.1 hv').2; omega, hC.step hlk hat, ?_⟩
            exact ((hnx.grown HG2.out hnx.size (fun j hj => by cases hj; omega)).alloc hz3 _).grown hg3 (by simp; omega) (fun j hj => (hrow2.lt j hj).1)
          case measure => rw [hrg3.left_eq, hrg.left_eq]; exact hlt
    · have h200I : (200 : Int) < ((allW x).length : Int) := by omega
      have HE := Lib.hid (dw_full Hg.out h200)
      go_wp2
      go_ret2
      exact ⟨_, by rw [HE.out.2]; rfl, by rw [HE.out.1]; exact strs_nilD _ _ _, HB2.out⟩
end Go.Proofs.YtgefgdkejenhnaaGreatDoor
