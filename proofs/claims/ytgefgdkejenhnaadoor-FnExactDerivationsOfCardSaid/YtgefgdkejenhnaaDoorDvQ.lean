/- DerivationsOf of the program: the visitor that appends. Conditions: the readings; MaxLen's cell. -/
import Derived.Test.YtgefgdkejenhnaaDoorDvD
import Derived.Test.YtgefgdkejenhnaaDoorDvG
import Derived.Test.YtgefgdkejenhnaaDoorDx
set_option linter.unusedSimpArgs false
namespace Go.Proofs.YtgefgdkejenhnaaDoor
open Go.RowKit
/-- Those that lead to s. -/
def ledTo (s : ByteArray) (L : Told) : List (StemD × Nat) := (L.filter fun d => d.1.2.toList == s.toList).map fun d => (d.1.1, d.2)
theorem ledTo_hit {s t : ByteArray} (L : Told) (d : StemD) (b : Nat) (h : (t.toList == s.toList) = true) : ledTo s (L ++ [((d, t), b)]) = ledTo s L ++ [(d, b)] := by simp [ledTo, List.filter_append, h]
theorem ledTo_skip {s t : ByteArray} (L : Told) (d : StemD) (b : Nat) (h : (t.toList == s.toList) = false) : ledTo s (L ++ [((d, t), b)]) = ledTo s L := by simp [ledTo, List.filter_append, h]
theorem ledTo_le (s : ByteArray) (L : Told) : (ledTo s L).length ≤ L.length := by unfold ledTo; rw [List.length_map]; exact List.length_filter_le _ _
/-- What the visitor keeps: the word in block sb, the list's variable in block cb, the list's row at B or above. -/
structure DoI (B sb cb : Nat) (s : ByteArray) (L : Told) (O : Nat → Prop) (w : World) : Prop where
  word : w.cell? ⟨sb, 0, none⟩ = some (.string s)
  ne : sb ≠ cb
  sbB : sb < B
  row : ∃ g cap, w.heap[cb]? = some (.cells #[.slice (some ⟨g, 0, none⟩) (ledTo s L).length cap] 45 (0, 0)) ∧ DerL w B (.slice (some ⟨g, 0, none⟩) (ledTo s L).length cap) (ledTo s L) ∧ (∀ k, O k ↔ (k = cb ∨ k = g)) ∧ g ≠ cb
attribute [local irreducible] Calls
set_option maxHeartbeats 4000000 in
set_option maxRecDepth 20000 in
theorem do1_any (B sb cb g cap : Nat) (s : ByteArray) (L : List (StemD × Nat)) (d : StemD) (b n : Nat) (t : ByteArray) (w : World) (hn : n = d.uses.length) (hw : w.cell? ⟨sb, 0, none⟩ = some (.string s)) (hgcb : g ≠ cb)
    (hc : w.heap[cb]? = some (.cells #[.slice (some ⟨g, 0, none⟩) L.length cap] 45 (0, 0))) (hl : DerL w B (.slice (some ⟨g, 0, none⟩) L.length cap) L) (hL : L.length ≤ 100000) (hB : B ≤ w.heap.size)
    (hb : w.heap[b]? = some (.cells (d.uses.map Value.string).toArray 9 (0, 0))) (hbL : ∀ y ∈ L, y.2 ≠ b) (hbg : g ≠ b) :
    Calls Tryd.prog 50 #[.agg #[.string d.word, .slice (some ⟨b, 0, none⟩) n n], .string t, .pointer (some ⟨sb, 0, none⟩), .pointer (some ⟨cb, 0, none⟩)] w fun e w' => e = .returned (.tuple #[]) ∧
      ((t.toList == s.toList) = false → Below w.heap.size w w') ∧
      ((t.toList == s.toList) = true → ∃ g2 cap2, w'.heap[cb]? = some (.cells #[.slice (some ⟨g2, 0, none⟩) (L.length + 1) cap2] 45 (0, 0)) ∧ DerL w' B (.slice (some ⟨g2, 0, none⟩) (L.length + 1) cap2) (L ++ [(d, b)]) ∧ (g2 = g ∨ w.heap.size ≤ g2) ∧
        w'.os = w.os ∧ w'.tape = w.tape ∧ w'.output = w.output ∧ w.heap.size ≤ w'.heap.size ∧ ∀ k, k < w.heap.size → k ≠ cb → k ≠ g → w'.heap[k]? = w.heap[k]?) := by
  subst hn
  have hb0 : Below w.heap.size w (w.alloc (.cells #[.string d.word, .slice (some ⟨b, 0, none⟩) d.uses.length d.uses.length] 41)) := (Below.refl _ _).alloc (Nat.le_refl _) _
  have hw1 := cell_below hb0 hw
  have d0 := cell_newi w #[.string d.word, .slice (some ⟨b, 0, none⟩) d.uses.length d.uses.length] 41 0 (.string d.word) rfl
  have d1 := cell_newi w #[.string d.word, .slice (some ⟨b, 0, none⟩) d.uses.length d.uses.length] 41 1 (.slice (some ⟨b, 0, none⟩) d.uses.length d.uses.length) rfl
  have hclt := (Array.getElem?_eq_some_iff.1 hc).1
  have HC1 := Lib.hid ((hb0.block cb hclt).trans hc)
  have HB0 := Lib.hid hb0
  cases hts : (t.toList == s.toList)
  · go_enter Tryd.func50, Tryd.ntmps50
    go_wp2
    go_end0
    exact ⟨rfl, fun _ => HB0.out, fun h => by cases h⟩
  · have HL1 := Lib.hid (hl.below hb0)
    have hzb : w.heap.size < (w.alloc (.cells #[.string d.word, .slice (some ⟨b, 0, none⟩) d.uses.length d.uses.length] 41)).heap.size := by simp
    obtain ⟨c1, f1⟩ := cell_of_heap (i := 0) (v := .slice (some ⟨g, 0, none⟩) L.length cap) HC1.out rfl
    have HBk := Lib.hid ((hb0.block b (Array.getElem?_eq_some_iff.1 hb).1).trans hb)
    go_enter Tryd.func50, Tryd.ntmps50
    go_upto_region 2 with fail
    clear hb0 hts hw1
    generalize w.alloc (.cells #[.string d.word, .slice (some ⟨b, 0, none⟩) d.uses.length d.uses.length] 41) = wb at HC1 HB0 HL1 hzb c1 f1 HBk d0 d1 ⊢
    have hBb : B ≤ wb.heap.size := Nat.le_trans hB HB0.out.size
    have hblk : ∀ k (cs : Array Value), w.heap[k]? = some (.cells cs 9 (0, 0)) → k ≠ cb := fun k cs hk e => by
      rw [e, hc] at hk
      injection hk with hk
      injection hk with _ h2
      exact absurd h2 (by decide)
    have HBlk := Lib.hid (And.intro (fun y hy => hblk _ _ (hl.blk y hy)) (hblk _ _ hb))
    clear hblk
    have hbv : (Value.slice (some ⟨g, 0, none⟩) L.length cap).ownBlock ≠ some b := fun e => hbg (Option.some.inj e)
    have hcbw : cb < wb.heap.size := Nat.lt_of_lt_of_le hclt HB0.out.size
    go_wp2_with (first
      | (at_builtin; refine app_der (w := wb) rfl (.tmp 9) (.tmp 11) rfl B (.slice (some ⟨g, 0, none⟩) L.length cap) L rfl HL1.out d b HBk.out hbL hbv d.uses.length rfl rfl hL hBb ?_; intro g2 cap2 w3 hd3 hb3 hg3 hgl3; have HC3 := Lib.hid ((hg3.block cb hcbw (fun e => hgcb (Option.some.inj e).symm)).trans HC1.out); have c3 := (cell_of_heap (i := 0) (v := .slice (some ⟨g, 0, none⟩) L.length cap) HC3.out rfl).1; have f3 := (cell_of_heap (i := 0) (v := .slice (some ⟨g, 0, none⟩) L.length cap) HC3.out rfl).2; clear c1 f1 d0 d1)
      | fail)
    have HG3 := Lib.hid hg3
    have HD3 := Lib.hid hd3
    have hg2 : g2 = g ∨ wb.heap.size ≤ g2 := by
      rcases hgl3 with h | h
      · exact .inl (Option.some.inj h)
      · exact .inr h
    clear hg3 hd3 hb3 hgl3 hbv
    go_end0
    have hz3 := HG3.out.size
    refine ⟨rfl, fun h => (by cases h), fun _ => ⟨g2, cap2, set_heap (i := 0) (.slice (some ⟨g2, 0, none⟩) (L.length + 1) cap2) HC3.out, HD3.out.keep (fun k _ hk => Below.heap_setCell _ _ _ _ (by
      show k ≠ cb
      rcases hk with hk | ⟨y, hy, rfl⟩
      · have : g2 = k := Option.some.inj hk
        omega
      · rcases List.mem_append.1 hy with hy | hy
        · exact HBlk.out.1 y hy
        · rw [List.mem_singleton.1 hy]; exact HBlk.out.2)), by omega, ?_, ?_, ?_, ?_, fun k hk h1 h2 => ?_⟩⟩
    · exact HG3.out.os.trans HB0.out.os
    · exact HG3.out.tape.trans HB0.out.tape
    · exact HG3.out.output.trans HB0.out.output
    · have : (w3.setCell ⟨cb, 0, none⟩ (.slice (some ⟨g2, 0, none⟩) (L.length + 1) cap2)).heap.size = w3.heap.size := by simp [World.setCell]
      omega
    · rw [Below.heap_setCell _ _ _ _ (show k ≠ cb from h1), HG3.out.block k (by omega) (fun e => h2 (Option.some.inj e)), HB0.out.block k hk]
theorem ledTo_fst (s : ByteArray) (L : Told) {D : List (StemD × ByteArray)} (h : L.map Prod.fst = D) : (ledTo s L).map Prod.fst = (D.filter fun d => d.2.toList == s.toList).map Prod.fst := by
  subst h
  unfold ledTo
  rw [List.map_map, List.filter_map, List.map_map]
  rfl
theorem graB_okQ {g : GraD} (h : graB g = true) : GraOk g := by
  by_cases h2 : GraOk g
  · exact h2
  · rw [graB_no h2] at h; cases h
theorem derL_sizes {g : GraD} (h : GraOk g) : ∀ d ∈ derL g, isLong d.1.word = true ∧ d.1.uses.length ≤ 2 ∧ ∀ n ∈ d.1.uses, n.size ≤ 12 := by
  intro d hd
  unfold derL derTo at hd
  rw [List.take_length, List.getElem?_eq_none (Nat.le_refl _), List.append_nil] at hd
  obtain ⟨s, hs, h2⟩ := List.mem_flatMap.1 hd
  obtain ⟨i, hi, rfl⟩ := List.getElem_of_mem hs
  have hl : isLong g.stems[i].word = true := by
    have := h.2.1.1 i hi
    simp only [stemB, Bool.and_eq_true] at this
    exact this.2
  unfold goOn at h2
  obtain ⟨n, hn, h3⟩ := List.mem_flatMap.1 h2
  split at h3
  · rw [List.mem_singleton.1 h3]
    have hm := waysTo_mem hn
    refine ⟨hl, hm.1, fun y hy => ?_⟩
    obtain ⟨j, hj, he, -⟩ := hasB_at ((stem_uses h hi).2.1 y (hm.2 y hy))
    rw [← he]
    have h5 := (affB_parts (h.1 j hj).1).1
    simp only [isName, inI, Bool.and_eq_true, decide_eq_true_eq] at h5
    omega
  · simp at h3
theorem led_sizes {g : GraD} (h : GraOk g) {s : ByteArray} {L : Told} (hL : L.map Prod.fst = derL g) : ∀ d ∈ ledTo s L, d.1.word.size ≤ maxLen ∧ d.1.uses.length ≤ maxLen ∧ ∀ y ∈ d.1.uses, y.size ≤ maxLen := by
  intro d hd
  unfold ledTo at hd
  obtain ⟨e, he, rfl⟩ := List.mem_map.1 hd
  have hm : e.1 ∈ derL g := by rw [← hL]; exact List.mem_map.2 ⟨e, (List.mem_filter.1 he).1, rfl⟩
  obtain ⟨h1, h2, h3⟩ := derL_sizes h _ hm
  have h4 : e.1.1.word.size ≤ 12 := by
    simp only [isLong, isWord, inI, Bool.and_eq_true, decide_eq_true_eq] at h1; omega
  refine ⟨by unfold maxLen; show e.1.1.word.size ≤ _; omega, by unfold maxLen; show e.1.1.uses.length ≤ _; omega, fun y hy => ?_⟩
  have := h3 y hy
  unfold maxLen; omega
theorem led_low {s : ByteArray} {L : Told} {B : Nat} (h : ∀ d ∈ L, B ≤ d.2) : ∀ d ∈ ledTo s L, B ≤ d.2 := by
  intro d hd
  unfold ledTo at hd
  obtain ⟨e, he, rfl⟩ := List.mem_map.1 hd
  exact h e (List.mem_filter.1 he).1
/-- The list in a slice of the call's own, as it is handed back. -/
theorem DerL.dersX {w : World} {B g cap lo : Nat} {L : List (StemD × Nat)} (h : DerL w B (.slice (some ⟨g, 0, none⟩) L.length cap) L) (hw : ∀ d ∈ L, d.1.word.size ≤ maxLen ∧ d.1.uses.length ≤ maxLen ∧ ∀ s ∈ d.1.uses, s.size ≤ maxLen) (hlo : lo ≤ B) (hL : ∀ d ∈ L, lo ≤ d.2) :
    DersX w lo w.heap.size (.slice (some ⟨g, 0, none⟩) L.length cap) (L.map Prod.fst) := by
  have hg := World.ownsRow.lt h.own g rfl
  refine ⟨g, qOf L, usOf L, h.stx hw, ⟨by omega, hg.2⟩, fun j hj => ?_⟩
  have hj2 : j < L.length := by simpa using hj
  rw [qOf_at hj2]
  exact ⟨hL _ (List.getElem_mem _), h.lt _ (List.getElem_mem _)⟩
theorem doVisits (B sb cb : Nat) (s : ByteArray) : Visits (.func (.func 50) #[] #[.pointer (some ⟨sb, 0, none⟩), .pointer (some ⟨cb, 0, none⟩)]) (DoI B sb cb s) := by
  refine ⟨fun L O w h k hk => ?_, fun L O w w' h hb => ?_, ⟨_, _, rfl, Tryd.call50, fun L O w st n t b h hb hnO hnL hn2 hL ht => ?_⟩⟩
  · obtain ⟨g, cap, h1, h2, h3, -⟩ := h.row
    rcases (h3 k).1 hk with rfl | rfl
    · exact (Array.getElem?_eq_some_iff.1 h1).1
    · exact (World.ownsRow.lt h2.own _ rfl).2
  · obtain ⟨g, cap, h1, h2, h3, h4⟩ := h.row
    exact ⟨cell_below hb h.word, h.ne, h.sbB, g, cap, (hb.block cb (Array.getElem?_eq_some_iff.1 h1).1).trans h1, h2.below hb, h3, h4⟩
  · obtain ⟨g, cap, h1, h2, h3, h4⟩ := h.row
    have hg := World.ownsRow.lt h2.own g rfl
    have hsb := World.block_lt_of_cell? _ _ h.word
    have hle := ledTo_le s L
    refine (do1_any B sb cb g cap s (ledTo s L) ⟨st, n⟩ b n.length t w rfl h.word h4 h1 h2 (by omega) (by omega) hb (fun y hy => ?_) (fun e => hnO ((h3 b).2 (.inr e.symm)))).mono ?_
    · unfold ledTo at hy
      obtain ⟨e, he, rfl⟩ := List.mem_map.1 hy
      exact hnL e (List.mem_filter.1 he).1
    · rintro e w' ⟨rfl, hno, hyes⟩
      refine ⟨rfl, ?_⟩
      cases hts : (t.toList == s.toList)
      · have hbw := hno hts
        refine ⟨O, ⟨cell_below hbw h.word, h.ne, h.sbB, g, cap, ?_, ?_, h3, h4⟩, FrO.of_below hbw⟩
        · rw [ledTo_skip L _ b hts]; exact (hbw.block cb (Array.getElem?_eq_some_iff.1 h1).1).trans h1
        · rw [ledTo_skip L _ b hts]; exact h2.below hbw
      · obtain ⟨g2, cap2, k1, k2, k3, k4, k5, k6, k7, k8⟩ := hyes hts
        have hcb := (Array.getElem?_eq_some_iff.1 h1).1
        refine ⟨fun k => k = cb ∨ k = g2, ⟨?_, h.ne, h.sbB, g2, cap2, ?_, ?_, fun k => Iff.rfl, by omega⟩, ⟨k4, k5, k6, k7, fun k hk hn => k8 k hk (fun e => hn ((h3 k).2 (.inl e))) (fun e => hn ((h3 k).2 (.inr e))), fun k hk => ?_⟩⟩
        · rw [← h.word]
          have := k8 sb hsb h.ne (by have := h.sbB; omega)
          simp only [World.cell?, this]
        · rw [ledTo_hit L _ b hts, List.length_append]; exact k1
        · rw [ledTo_hit L _ b hts, List.length_append]; exact k2
        · rcases hk with rfl | rfl
          · exact .inl ((h3 _).2 (.inl rfl))
          · rcases k3 with rfl | k3
            · exact .inl ((h3 _).2 (.inr rfl))
            · exact .inr k3
set_option maxHeartbeats 4000000 in
set_option maxRecDepth 20000 in
theorem implDerivationsOf_any (v : Value) (x : GraD) (s : ByteArray) (w : World) (hv : GraR w v x) (hs : s.size ≤ 1048576) (hM : MaxL w) :
    Calls Tryd.prog 19 #[v, .string s] w fun e w' => ∃ v', e = .returned (.tuple #[v', .int .i64 (dofE x s)]) ∧ DersX w' w.heap.size w'.heap.size v' (dofV x s) ∧ Below w.heap.size w w' := by
  have HV := Lib.hid hv
  obtain ⟨s1, s2, rfl, ha, hst⟩ := hv
  obtain ⟨a1, k1, rfl, -, -, -⟩ := ha.shape
  obtain ⟨a2, k2, rfl, -, -, -⟩ := hst.shape
  have hb0 : Below w.heap.size w ((w.alloc (.cells #[.slice a1 x.affixes.length k1, .slice a2 x.stems.length k2] 31)).alloc (.cells #[.string s] 9)) := ((Below.refl _ _).alloc (Nat.le_refl _) _).alloc (by simp) _
  have g0 := cell_alloc (.cells #[.string s] 9) (cell_newi w #[.slice a1 x.affixes.length k1, .slice a2 x.stems.length k2] 31 0 (.slice a1 x.affixes.length k1) rfl)
  have g1 := cell_alloc (.cells #[.string s] 9) (cell_newi w #[.slice a1 x.affixes.length k1, .slice a2 x.stems.length k2] 31 1 (.slice a2 x.stems.length k2) rfl)
  have t0 := cell_newi (w.alloc (.cells #[.slice a1 x.affixes.length k1, .slice a2 x.stems.length k2] 31)) #[.string s] 9 0 (.string s) rfl
  rw [World.size_alloc] at t0
  have hz0 : w.heap.size + 2 ≤ ((w.alloc (.cells #[.slice a1 x.affixes.length k1, .slice a2 x.stems.length k2] 31)).alloc (.cells #[.string s] 9)).heap.size := by simp
  have HB0 := Lib.hid hb0
  have HM0 := Lib.hid (hM.below hb0)
  have HV0 := Lib.hid (HV.out.below hb0)
  clear ha hst hM hb0
  go_enter Tryd.func19, Tryd.ntmps19
  go_wp2_with fail
  refine (implValidGrammar_any _ x _ HV0.out HM0.out).mono ?_
  rintro e w1 ⟨rfl, hb1⟩
  have HB1 := Lib.hid (HB0.out.trans (hb1.mono HB0.out.size))
  have HV1 := Lib.hid (HV0.out.below hb1)
  have HM1 := Lib.hid (HM0.out.below hb1)
  have g0 := cell_below hb1 g0
  have g1 := cell_below hb1 g1
  have t0 := cell_below hb1 t0
  have hz1 : w.heap.size + 2 ≤ w1.heap.size := Nat.le_trans hz0 hb1.size
  clear hb1 hz0
  cases hg : graB x
  · have Hg := Lib.hid (dof_no (s := s) hg)
    go_wp2
    go_ret2
    exact ⟨_, by rw [Hg.out.2]; rfl, by rw [Hg.out.1]; exact DersX.nil _ (by omega), HB1.out⟩
  · have Hg := Lib.hid hg
    go_wp2_with fail
    refine (isLong_any s _ (by unfold maxLen; omega)).mono ?_
    rintro e w2 ⟨rfl, hb2⟩
    have HB2 := Lib.hid (HB1.out.trans (hb2.mono HB1.out.size))
    have HV2 := Lib.hid (HV1.out.below hb2)
    have HM2 := Lib.hid (HM1.out.below hb2)
    have g0 := cell_below hb2 g0
    have g1 := cell_below hb2 g1
    have t0 := cell_below hb2 t0
    have hz2 : w.heap.size + 2 ≤ w2.heap.size := Nat.le_trans hz1 hb2.size
    clear hb2 hz1
    cases hl : isLong s
    · have HE := Lib.hid (dof_bad Hg.out hl)
      go_wp2
      go_ret2
      exact ⟨_, by rw [HE.out.2]; rfl, by rw [HE.out.1]; exact DersX.nil _ (by omega), HB2.out⟩
    · have HE := Lib.hid (dof_yes Hg.out hl)
      have hmf : ∀ (fn : Fn) (first cap : Array Value) (w : World), (Instr.makeFunc fn first cap).run Tryd.prog w = .ok (.func fn first cap) w := fun _ _ _ _ => rfl
      have hbs : Below w2.heap.size w2 ((w2.alloc (.cells #[] 41)).alloc (.cells #[.slice (some ⟨w2.heap.size, 0, none⟩) 0 0] 45)) := ((Below.refl _ _).alloc (Nat.le_refl _) _).alloc (by simp) _
      have hr0 := heap_alloc_new (w2.alloc (.cells #[] 41)) (.cells #[.slice (some ⟨w2.heap.size, 0, none⟩) 0 0] 45)
      rw [World.size_alloc] at hr0
      have HI0 : Hid (DoI w2.heap.size (w.heap.size + 1) (w2.heap.size + 1) s [] (fun k => k = w2.heap.size + 1 ∨ k = w2.heap.size) ((w2.alloc (.cells #[] 41)).alloc (.cells #[.slice (some ⟨w2.heap.size, 0, none⟩) 0 0] 45))) := Lib.hid ⟨cell_below hbs t0, by omega, by omega, w2.heap.size, 0, hr0, (DerL.made w2 w2.heap.size (Nat.le_refl _)).below ((Below.refl _ _).alloc (Nat.le_refl _) _), fun k => Iff.rfl, by omega⟩
      have HBs := Lib.hid hbs
      have g0s := cell_below hbs g0
      have g1s := cell_below hbs g1
      clear hl hr0 hbs t0
      go_wp2_with fail
      refine (derivations_any (doVisits w2.heap.size (w.heap.size + 1) (w2.heap.size + 1) s) _ x w2 _ (fun k => k = w2.heap.size + 1 ∨ k = w2.heap.size) HV2.out HBs.out (graB_okQ Hg.out) HM2.out HI0.out (fun k hk => by rcases hk with rfl | rfl <;> omega)).mono ?_
      rintro e w3 ⟨rfl, L, O, hI3, hL, hF, hlow⟩
      obtain ⟨-, -, -, g, cap, hrow, hdl, -, -⟩ := hI3
      have HB3 : Hid (Below w.heap.size w w3) := Lib.hid (HB2.out.trans ((HBs.out.trans (hF.below HBs.out.size (fun k hk => by rcases hk with rfl | rfl <;> omega))).mono HB2.out.size))
      have hzs := HBs.out.size
      have HX := Lib.hid (hdl.dersX (lo := w.heap.size) (led_sizes (graB_okQ Hg.out) hL) (by omega) (led_low (fun d hd => by have := hlow d hd; omega)))
      have HLF := Lib.hid (ledTo_fst s L hL)
      obtain ⟨c3, -⟩ := cell_of_heap (i := 0) (v := .slice (some ⟨g, 0, none⟩) (ledTo s L).length cap) hrow rfl
      clear hrow hdl hF hL hlow g0s g1s g0 g1 hmf
      go_wp2
      go_ret2
      refine ⟨_, by rw [HE.out.2]; rfl, ?_, HB3.out⟩
      rw [HE.out.1, ← HLF.out]
      exact HX.out
end Go.Proofs.YtgefgdkejenhnaaDoor
