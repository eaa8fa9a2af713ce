/- ReadGrammar of the reference. Conditions: a text of at most 2^20 bytes; Go's own bound on the bytes of a slice. -/
import Derived.Test.YtndfhmphlomeiaaGreatDoorRgS
import Derived.Test.YtndfhmphlomeiaaGreatDoorK0
set_option linter.unusedSimpArgs false
namespace Go.Proofs.YtndfhmphlomeiaaGreatDoor
open Go.RowKit
/-- What ReadGrammar comes to. -/
noncomputable def rgB (s : ByteArray) : Bool := (readV s).isSome
noncomputable def rgG (s : ByteArray) : GraD := (readV s).getD emptyG
theorem rg_some {s : ByteArray} {g : GraD} (h : readV s = some g) : rgG s = g ∧ rgB s = true := by simp [rgG, rgB, h]
theorem rg_none {s : ByteArray} (h : readV s = none) : rgG s = emptyG ∧ rgB s = false := by simp [rgG, rgB, h]
theorem line_len {f : GraD → List ByteArray → Option GraD} (hf : ∀ g ws g', f g ws = some g' → g'.affixes.length + g'.stems.length = g.affixes.length + g.stems.length + 1) : ∀ (l : List ByteArray) (g g' : GraD), foldG f g l = some g' → g'.affixes.length + g'.stems.length = g.affixes.length + g.stems.length + l.length
  | [], g, g', h => by simp only [foldG] at h; cases h; simp
  | a :: l, g, g', h => by
    simp only [foldG] at h
    cases hq : f g (splitW 32 a) with
    | none => rw [hq] at h; cases h
    | some g2 =>
      rw [hq] at h
      have h1 := hf _ _ _ hq
      have h2 := line_len hf l g2 g' h
      simp only [List.length_cons]; omega
theorem specLine_len {g g' : GraD} {ws : List ByteArray} (h : specLine g ws = some g') : g'.affixes.length + g'.stems.length = g.affixes.length + g.stems.length + 1 := by
  unfold specLine at h
  split at h
  · split at h
    · cases h; simp; omega
    · cases h
  · split at h
    · cases h; simp; omega
    · cases h
theorem implLine_len {g g' : GraD} {ws : List ByteArray} (h : implLine g ws = some g') : g'.affixes.length + g'.stems.length = g.affixes.length + g.stems.length + 1 := by
  unfold implLine at h
  split at h
  · cases h; simp; omega
  · split at h
    · cases h; simp; omega
    · cases h
theorem GB.frame {w w' : World} {B gb v1 v2 g q us} (h : GB w B gb v1 v2 g q us) (hk : ∀ k, k < w.heap.size → (k = gb ∨ B ≤ k) → w'.heap[k]? = w.heap[k]?) (hs : w.heap.size ≤ w'.heap.size) : GB w' B gb v1 v2 g q us :=
  ⟨(hk gb (Array.getElem?_eq_some_iff.1 h.box).1 (.inl rfl)).trans h.box, h.gbB,
    own_frame h.aff fun k e => hk k (World.ownsRow.lt h.aff k e).2 (.inr (World.ownsRow.lt h.aff k e).1),
    own_frame h.stm fun k e => hk k (World.ownsRow.lt h.stm k e).2 (.inr (World.ownsRow.lt h.stm k e).1), h.len,
    fun j hj hj' => strs_frame (h.uses j hj hj') (hk _ (h.low j hj).2 (.inr (h.low j hj).1)), fun j hj => ⟨(h.low j hj).1, Nat.lt_of_lt_of_le (h.low j hj).2 hs⟩, h.inj, h.ap, h.apq, h.lima, h.lims⟩
theorem GB.graR {w : World} {B gb v1 v2 g q us} (h : GB w B gb v1 v2 g q us) : Affs w v1 g.affixes ∧ Stems w v2 g.stems :=
  ⟨⟨(own_SlW h.aff).read, h.lima⟩, ⟨us, h.len, (own_SlW h.stm).read, fun j hj hj' => ⟨h.lims _ (List.getElem_mem _), (h.uses j hj hj').read⟩⟩⟩
theorem GB.graBox {w : World} {B gb v1 v2 g q us} (h : GB w B gb v1 v2 g q us) : GraBox w gb v1 v2 g := ⟨h.cell0.1, h.cell1.1, h.graR.1, h.graR.2⟩
theorem graX_nil (w : World) {lo hi : Nat} (h : lo + 2 ≤ hi) : GraX w lo hi (.agg #[.slice none 0 0, .slice none 0 0]) emptyG :=
  ⟨_, _, lo, lo + 1, fun _ => 0, [], rfl, ⟨⟨rfl, none, 0, rfl, Nat.le_refl _, by unfold maxLen; omega, .inl rfl⟩, by simp [emptyG]⟩,
    ⟨rfl, ⟨rfl, none, 0, rfl, Nat.le_refl _, by unfold maxLen; omega, .inl rfl⟩, by simp [emptyG], fun j h => by simp [emptyG] at h, fun j h => by simp [emptyG] at h, fun i j h => by simp [emptyG] at h⟩, ⟨by omega, by omega⟩, ⟨by omega, by omega⟩, by omega, fun j h => by simp [emptyG] at h⟩
theorem res_cell_rowG {P : Program} {fn : Func} {p u : Tmp} {ty : TypeId} (h : fn.results = #[.cell p ty, .tmp u]) (tmps : Array Value) (w : World) (g : Nat) (t : TypeId) (cs : Array Value) (fr : Nat × Nat) (d : TypeDesc)
    (hp : tmps.getD p undef = .pointer (some ⟨g, 0, none⟩)) (hg : w.heap[g]? = some (.cells cs t fr))
    (hu : P.underlying ty = some d) (hd : (match d with | .struct _ | .array _ _ => true | _ => false) = true) (hi : (P.info? ty).map (·.size) = some cs.size) :
    (results fn tmps).run P w = .ok (.tuple #[.agg cs, tmps.getD u undef]) w := by
  rw [results_cell_tmp h, hp]
  have hl := run_loadVar_row w g t ty cs fr d hg hu hd hi
  simp [asAddr, hl, Result.andThen]
/-- The zero grammar stored into the result's block. -/
theorem store_nilG {w : World} {g : Nat} {u v : Value} (h : w.heap[g]? = some (.cells #[u, v] 27 (0, 0))) (a b : Value) : ((w.setCell ⟨g, 0, none⟩ a).setCell ⟨g, 1, none⟩ b).heap[g]? = some (.cells #[a, b] 27 (0, 0)) := by
  have h1 := set_heap (i := 0) a h
  exact set_heap (i := 1) b h1
theorem two_set_block (w : World) (g : Nat) (a b : Value) (k : Nat) (hk : k ≠ g) : ((w.setCell ⟨g, 0, none⟩ a).setCell ⟨g, 1, none⟩ b).heap[k]? = w.heap[k]? := by
  rw [Below.heap_setCell _ _ _ _ (show k ≠ g from hk), Below.heap_setCell _ _ _ _ (show k ≠ g from hk)]
theorem two_set_size (w : World) (g : Nat) (a b : Value) : ((w.setCell ⟨g, 0, none⟩ a).setCell ⟨g, 1, none⟩ b).heap.size = w.heap.size := by rw [size_set, size_set]
theorem two_set_below {B : Nat} {w0 w : World} (h : Below B w0 w) {g : Nat} (hg : B ≤ g) (a b : Value) : Below B w0 ((w.setCell ⟨g, 0, none⟩ a).setCell ⟨g, 1, none⟩ b) := (h.setCell (p := ⟨g, 0, none⟩) hg a).setCell (p := ⟨g, 1, none⟩) hg b
/-- The facts that a store of two cells wants. -/
structure Two (w : World) (g : Nat) (u v b : Value) : Prop where
  c0 : w.cell? ⟨g, 0, none⟩ = some u
  f0 : w.frozen? ⟨g, 0, none⟩ = false
  c1 : (w.setCell ⟨g, 0, none⟩ b).cell? ⟨g, 1, none⟩ = some v
  f1 : (w.setCell ⟨g, 0, none⟩ b).frozen? ⟨g, 1, none⟩ = false
theorem twoOf {w : World} {g : Nat} {u v : Value} (h : w.heap[g]? = some (.cells #[u, v] 27 (0, 0))) (b : Value) : Two w g u v b :=
  ⟨(cell_of_heap (i := 0) (v := u) h rfl).1, (cell_of_heap (i := 0) (v := u) h rfl).2, (cell_of_heap (i := 1) (v := v) (set_heap (i := 0) b h) rfl).1, (cell_of_heap (i := 1) (v := v) (set_heap (i := 0) b h) rfl).2⟩
attribute [local irreducible] Calls
set_option maxHeartbeats 8000000 in
set_option maxRecDepth 20000 in
theorem specReadGrammar_any (s : ByteArray) (w : World) (hs : s.size ≤ 1048576) (_hM : MaxL w) :
    Calls Tryz.prog 9 #[.string s] w fun e w' => ∃ v', e = .returned (.tuple #[v', .bool (rgB s)]) ∧ GraX w' w.heap.size w'.heap.size v' (rgG s) ∧ Below w.heap.size w w' := by
  have hb0 : Below w.heap.size w (w.alloc (.cells #[.slice none 0 0, .slice none 0 0] 27)) := (Below.refl _ _).alloc (Nat.le_refl _) _
  have HR0 := Lib.hid (heap_alloc_new w (.cells #[.slice none 0 0, .slice none 0 0] 27))
  have hz0 : w.heap.size < (w.alloc (.cells #[.slice none 0 0, .slice none 0 0] 27)).heap.size := by simp
  have HB0 := Lib.hid hb0
  clear hb0
  go_enter Tryz.func9, Tryz.ntmps9
  go_wp2_with fail
  refine (l01Split_any s _ 10 _ rfl hs).mono ?_
  rintro e w1 ⟨vl, rfl, hl, hb1⟩
  obtain ⟨ps, z, hps⟩ := split_parts 10 s
  rw [hps] at hl
  have hpl := splitW_len 10 s
  rw [hps, List.length_append, List.length_singleton] at hpl
  obtain ⟨a, c, rfl, hlc, hcm, hcs⟩ := hl.read.shape
  have hlen : (ps ++ [z]).length = ps.length + 1 := by simp
  have HCS := Lib.hid hcs
  have HL := Lib.hid hl
  have HPS := Lib.hid hps
  rw [hlen] at hlc
  obtain ⟨b1, o1, rfl, hcz, -⟩ := hcs ps.length (by rw [hlen]; omega)
  have ez : (ps ++ [z])[ps.length]'(by rw [hlen]; omega) = z := by simp
  rw [ez] at hcz
  have HB1 := Lib.hid (HB0.out.trans (hb1.mono HB0.out.size))
  have HR1 := Lib.hid ((hb1.block w.heap.size hz0).trans HR0.out)
  have hz1 : w.heap.size < w1.heap.size := Nat.lt_of_lt_of_le hz0 hb1.size
  unfold maxLen at hcm
  have hb2 : Below w1.heap.size w1 (w1.alloc (.cells #[.slice none 0 0, .slice none 0 0] 27)) := (Below.refl _ _).alloc (Nat.le_refl _) _
  have HG2 : Hid (GB (w1.alloc (.cells #[.slice none 0 0, .slice none 0 0] 27)) (w1.heap.size + 1) w1.heap.size (.slice none 0 0) (.slice none 0 0) emptyG (fun _ => 0) []) := Lib.hid (GB.start (heap_alloc_new w1 _) (by omega))
  have hcz := cell_below hb2 hcz
  have HR2 := Lib.hid ((hb2.block w.heap.size hz1).trans HR1.out)
  have HB2 := Lib.hid (HB1.out.trans (hb2.mono HB1.out.size))
  have hz2 : w1.heap.size + 1 ≤ (w1.alloc (.cells #[.slice none 0 0, .slice none 0 0] 27)).heap.size := by simp
  have HBb := Lib.hid hb2
  have e1 : (((ps.length : Int) + 1) - 1) = (ps.length : Int) := by omega
  have hbad := fun (w' : World) (hr : w'.heap[w.heap.size]? = some (.cells #[.slice none 0 0, .slice none 0 0] 27 (0, 0))) => twoOf hr (.slice none 0 0)
  rw [hlen]
  clear hl hb1 hb2 hcs hlen ez hps
  have hz2w : w.heap.size + 2 ≤ (w1.alloc (.cells #[.slice none 0 0, .slice none 0 0] 27)).heap.size := by simp; omega
  go_upto_region 3 with fail
  clear hbad
  generalize w1.alloc (.cells #[.slice none 0 0, .slice none 0 0] 27) = w2 at HG2 hcz HR2 HB2 hz2 HBb hz2w ⊢
  have hl1I : (0 : Int) ≤ (ps.length : Int) := by omega
  have hl2I : (ps.length : Int) < (ps.length : Int) + 1 := by omega
  cases hzb : (z.toList == ([] : List UInt8))
  · have HN := Lib.hid (spec_no HPS.out (.inl (fun e => by rw [e] at hzb; exact absurd hzb (by decide +kernel))))
    have two := twoOf HR2.out (.slice none 0 0)
    have tc0 := two.c0
    have tf0 := two.f0
    have tc1 := two.c1
    have tf1 := two.f1
    clear two
    go_wp2
    refine bodyPost_ret (v := .tuple #[.agg #[.slice none 0 0, .slice none 0 0], .bool false]) (res_cell_rowG (p := 2) (u := 3) (ty := 27) rfl _ _ w.heap.size _ _ _ _ rfl (store_nilG HR2.out _ _) Tryz.underlying27 rfl infoGra) rfl ⟨_, by rw [(rg_none HN.out).2], by rw [(rg_none HN.out).1]; exact graX_nil _ (by rw [two_set_size]; omega), two_set_below HB2.out (Nat.le_refl _) _ _⟩
  have hze : z = ⟨#[]⟩ := isB_eq (l := []) hzb
  by_cases h42 : 42 < ps.length
  · have HN := Lib.hid (spec_no HPS.out (.inr (.inl h42)))
    have h43 : (43 : Int) < (ps.length : Int) + 1 := by omega
    have two := twoOf HR2.out (.slice none 0 0)
    have tc0 := two.c0
    have tf0 := two.f0
    have tc1 := two.c1
    have tf1 := two.f1
    clear two
    go_wp2
    refine bodyPost_ret (v := .tuple #[.agg #[.slice none 0 0, .slice none 0 0], .bool false]) (res_cell_rowG (p := 2) (u := 3) (ty := 27) rfl _ _ w.heap.size _ _ _ _ rfl (store_nilG HR2.out _ _) Tryz.underlying27 rfl infoGra) rfl ⟨_, by rw [(rg_none HN.out).2], by rw [(rg_none HN.out).1]; exact graX_nil _ (by rw [two_set_size]; omega), two_set_below HB2.out (Nat.le_refl _) _ _⟩
  have h43 : ¬ ((43 : Int) < (ps.length : Int) + 1) := by omega
  subst hze
  have HK2 : Hid (KeepG (w1.heap.size + 1) w1.heap.size w2 w2) := Lib.hid (KeepG.refl _ _ _)
  have HL2 := Lib.hid (HL.out.below HBb.out)
  go_wp2
  clear hcz hzb
  go_loopw [6] (fun i wr => ∃ (j : Nat) (v1 v2 : Value) (g : GraD) (q : Nat → Nat) (us : List Value), j ≤ ps.length ∧ i = .int .i64 (j : Int) ∧ Hid (foldG specLine emptyG (ps.take j) = some g) ∧ Hid (GB wr (w1.heap.size + 1) w1.heap.size v1 v2 g q us) ∧ Hid (KeepG (w1.heap.size + 1) w1.heap.size w2 wr)) (fun i _ => ps.length - (intOf i).toNat)
  case atStart => exact ⟨0, _, _, emptyG, _, _, by omega, rfl, Lib.hid rfl, HG2, HK2⟩
  case round =>
    clear HG2 HK2
    obtain ⟨j, v1, v2, g, q, us, hj, rfl, HF, HG, HK⟩ := hrel
    have hszr := HK.out.size
    have HRr := Lib.hid ((HK.out.block w.heap.size (by omega) (by omega)).trans HR2.out)
    have HBr := Lib.hid (HB2.out.trans (HK.out.below (C := w.heap.size) (by omega) (by omega)))
    have hgl := line_len (fun g ws g' h => specLine_len h) _ _ _ HF.out
    rw [List.length_take] at hgl
    have hglA : g.affixes.length ≤ 1000 := by simp [emptyG] at hgl; omega
    have hglS : g.stems.length ≤ 1000 := by simp [emptyG] at hgl; omega
    by_cases hlt : j < ps.length
    · obtain ⟨b2, o2, e2, hcj, -⟩ := HCS.out j (by simp; omega)
      cases e2
      have hb1lt : b1 < w1.heap.size := cell_lt hcj
      have hb1g : b1 ≠ w1.heap.size := by omega
      rw [List.getElem_append_left hlt] at hcj
      have hcj := HK.out.cell (by omega) hb1g (cell_below HBb.out hcj)
      have hsz : ps[j].size ≤ 1048576 := by
        have := splitW_part (c := 10) (s := s) (p := ps[j]) (by rw [HPS.out]; exact List.mem_append_left _ (List.getElem_mem _))
        omega
      have hjI : (j : Int) < (ps.length : Int) := by omega
      go_wp2_with fail
      refine (l01Split_any ps[j] _ 32 _ rfl hsz).mono ?_
      rintro e w3 ⟨vw, rfl, hw3, hb3⟩
      have hwl := splitW_len 32 ps[j]
      have hwn := splitW_ne 32 ps[j]
      have HLn := Lib.hid (l04Line_any (w1.heap.size + 1) w1.heap.size v1 v2 g q us vw (splitW 32 ps[j]) wr w3 HG.out hb3 (by omega) hw3 hwn (by omega) hglA hglS)
      have HK3 := Lib.hid (HK.out.trans (KeepG.of_below hb3 (by omega)))
      clear hb3 hw3 hcj
      go_wp2_with fail
      refine HLn.out.mono ?_
      rintro e w4 hq
      obtain ⟨rfl, hqs, hqk⟩ := hq
      have HK4 := Lib.hid (HK3.out.trans hqk)
      cases hsl : specLine g (splitW 32 ps[j])
      · have hf1 := foldG_take hlt HF.out
        rw [hsl] at hf1
        have HN := Lib.hid (spec_no HPS.out (.inr (.inr (.inl (foldG_stop hf1)))))
        have HR4 := Lib.hid ((HK4.out.block w.heap.size (by omega) (by omega)).trans HR2.out)
        have HB4 := Lib.hid (HB2.out.trans (HK4.out.below (C := w.heap.size) (by omega) (by omega)))
        have hz4 : w.heap.size + 2 ≤ w4.heap.size := Nat.le_trans hz2w HK4.out.size
        clear hqs hqk hsl hf1 HLn
        have two := twoOf HR4.out (.slice none 0 0)
        have tc0 := two.c0
        have tf0 := two.f0
        have tc1 := two.c1
        have tf1 := two.f1
        clear two
        go_wp2
        refine bodyPost_ret (v := .tuple #[.agg #[.slice none 0 0, .slice none 0 0], .bool false]) (res_cell_rowG (p := 2) (u := 3) (ty := 27) rfl _ _ w.heap.size _ _ _ _ rfl (store_nilG HR4.out _ _) Tryz.underlying27 rfl infoGra) rfl ⟨_, by rw [(rg_none HN.out).2], by rw [(rg_none HN.out).1]; exact graX_nil _ (by rw [two_set_size]; omega), two_set_below HB4.out (Nat.le_refl _) _ _⟩
      · rename_i g'
        obtain ⟨u1, u2, q', us', hgb⟩ := hqs g' hsl
        have HF4 : Hid (foldG specLine emptyG (ps.take (j + 1)) = some g') := Lib.hid (by rw [foldG_take hlt HF.out, hsl])
        have HG4 := Lib.hid hgb
        clear hqs hqk hsl hgb HLn
        go_wp2
        go_roundw
        case rel => exact ⟨j + 1, u1, u2, g', q', us', by omega, by go_num, HF4, HG4, HK4⟩
        case measure => simp [intOf]; omega
    · obtain rfl : j = ps.length := by omega
      have HF5 : Hid (foldG specLine emptyG ps = some g) := Lib.hid (by have := HF.out; rwa [List.take_length] at this)
      obtain ⟨a1, k1, rfl, -, -⟩ := own_shape HG.out.aff
      obtain ⟨a2, k2, rfl, -, -⟩ := own_shape HG.out.stm
      have hjI : ¬ ((ps.length : Int) < (ps.length : Int)) := by omega
      have hzr : w.heap.size + 2 ≤ wr.heap.size := Nat.le_trans hz2w hszr
      cases hg : graB g
      · have HN := Lib.hid (spec_no HPS.out (.inr (.inr (.inr ⟨g, HF5.out, hg⟩))))
        go_wp2_with fail
        refine (l04Ok_any _ _ _ g _ HG.out.graBox).mono ?_
        rw [hg]
        rintro e w5 ⟨rfl, qq, rfl⟩
        have HR5 : Hid ((wr.drewN qq).heap[w.heap.size]? = some (.cells #[.slice none 0 0, .slice none 0 0] 27 (0, 0))) := Lib.hid HRr.out
        have HB5 := Lib.hid (below_drewN HBr.out qq)
        have hz5 : w.heap.size + 2 ≤ (wr.drewN qq).heap.size := hzr
        have two := twoOf HR5.out (.slice none 0 0)
        have tc0 := two.c0
        have tf0 := two.f0
        have tc1 := two.c1
        have tf1 := two.f1
        clear two
        go_wp2
        refine bodyPost_ret (v := .tuple #[.agg #[.slice none 0 0, .slice none 0 0], .bool false]) (res_cell_rowG (p := 2) (u := 3) (ty := 27) rfl _ _ w.heap.size _ _ _ _ rfl (store_nilG HR5.out _ _) Tryz.underlying27 rfl infoGra) rfl ⟨_, by rw [(rg_none HN.out).2], by rw [(rg_none HN.out).1]; exact graX_nil _ (by rw [two_set_size]; omega), two_set_below HB5.out (Nat.le_refl _) _ _⟩
      · have HN := Lib.hid (spec_some HPS.out HF5.out hg)
        go_wp2_with fail
        refine (l04Ok_any _ _ _ g _ HG.out.graBox).mono ?_
        rw [hg]
        rintro e w5 ⟨rfl, qq, rfl⟩
        have HG5 := Lib.hid (HG.out.frame (w' := wr.drewN qq) (fun _ _ _ => rfl) (Nat.le_refl _))
        have HR5 : Hid ((wr.drewN qq).heap[w.heap.size]? = some (.cells #[.slice none 0 0, .slice none 0 0] 27 (0, 0))) := Lib.hid HRr.out
        have HB5 := Lib.hid (below_drewN HBr.out qq)
        have hz5 : w.heap.size + 2 ≤ (wr.drewN qq).heap.size := hzr
        have hz6 : w1.heap.size + 1 ≤ (wr.drewN qq).heap.size := Nat.le_trans hz2 hszr
        have two := twoOf HR5.out (.slice a1 g.affixes.length k1)
        have tc0 := two.c0
        have tf0 := two.f0
        have tc1 := two.c1
        have tf1 := two.f1
        have gc0 := HG5.out.cell0.1
        have gc1 := HG5.out.cell1.1
        clear two hg
        go_wp2
        refine bodyPost_ret (v := .tuple #[.agg #[.slice a1 g.affixes.length k1, .slice a2 g.stems.length k2], .bool true]) (res_cell_rowG (p := 2) (u := 3) (ty := 27) rfl _ _ w.heap.size _ _ _ _ rfl (store_nilG HR5.out _ _) Tryz.underlying27 rfl infoGra) rfl ⟨_, by rw [(rg_some HN.out).2], ?_, two_set_below HB5.out (Nat.le_refl _) _ _⟩
        rw [(rg_some HN.out).1]
        exact (HG5.out.frame (fun k _ hk => two_set_block _ _ _ _ k (by omega)) (by rw [two_set_size]; exact Nat.le_refl _)).graX (rb := w.heap.size) (by omega) (Nat.le_refl _) (by omega) (by omega) (by rw [two_set_size]; exact hz6)
end Go.Proofs.YtndfhmphlomeiaaGreatDoor
