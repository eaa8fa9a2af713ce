/- WordsOfLength of both sides; selected. No condition but the readings. -/
import Derived.Test.YtlompohfibcjfaaLa
namespace Go.Proofs.Ytlompohfibcjfaa
open Go.RowKit
theorem filter_take {α : Type} (p : α → Bool) (l : List α) (j : Nat) (h : j < l.length) : (l.take (j + 1)).filter p = (l.take j).filter p ++ (if p l[j] then [l[j]] else []) := by
  rw [List.take_succ_eq_append_getElem h, List.filter_append]
  cases hp : p l[j] <;> simp [hp]
set_option maxHeartbeats 1000000 in
theorem selected_any (v : Value) (l : List ByteArray) (k : Nat) (c0 : Value) (p : ByteArray → Bool) (w : World) (hv : Strs w v l) (hn : l.length ≤ 1048576)
    (hk : ∀ (args : Array Value) (w : World), (callFunc k args).run Try.prog w = .ok (.enter k args) w)
    (hf : ∀ s ∈ l, ∀ w', Below w.heap.size w w' → Calls Try.prog k #[.string s, c0] w' fun e w'' => e = .returned (.bool (p s)) ∧ Below w'.heap.size w' w'') :
    Calls Try.prog 54 #[v, .func (.func k) #[] #[c0]] w fun e w' => ∃ v', e = .returned v' ∧ StrsW w' w.heap.size w'.heap.size v' (l.filter p) ∧ Below w.heap.size w w' := by
  obtain ⟨a, c, rfl, hl, hc, hcs⟩ := hv.shape
  unfold maxLen at hc
  have Hmax := Lib.hid hv.2
  have Hf := Lib.hid hf
  clear hv hf
  go_enter Try.func54, Try.ntmps54
  go_wp2
  have hb0 : Below w.heap.size w (w.alloc (.cells #[] 9)) := (Below.refl _ _).alloc (Nat.le_refl _) _
  have hown0 := OwnS.made w w.heap.size (Nat.le_refl _)
  go_loopw [5, 11] (fun out i wr => ∃ j : Nat, j ≤ l.length ∧ i = .int .i64 (j : Int) ∧ OwnS wr w.heap.size out ((l.take j).filter p) ∧ Below w.heap.size w wr) (fun _ i _ => l.length - (intOf i).toNat)
  case atStart => exact ⟨0, by omega, rfl, by simpa using hown0, hb0⟩
  case round =>
    obtain ⟨j, hj, rfl, hown, hb⟩ := hrel
    clear hown0 hb0
    by_cases hlt : j < l.length
    · obtain ⟨b1, o1, rfl, hc1, hs1⟩ := hcs j hlt
      have hw1 : wr.cell? ⟨b1, o1 + j, none⟩ = some (.string l[j]) := (hb.cell (cell_lt hc1)).trans hc1
      clear hcs hc1
      have Hcall := Lib.hid (Hf.out l[j] (List.getElem_mem hlt) wr hb)
      have hlen : ((l.take j).filter p).length ≤ 1048576 := by have := List.length_filter_le p (l.take j); simp at this; omega
      have htk := filter_take p l j hlt
      have Htk := Lib.hid htk
      clear htk
      cases hp : p l[j]
      · go_wp2_with fail
        refine Hcall.out.mono ?_
        rw [hp]
        rintro e w1 ⟨rfl, hb1⟩
        have hown1 := hown.below hb1
        have hb2 := hb.trans (hb1.mono hb.size)
        go_wp2
        go_roundw
        case rel => exact ⟨j + 1, by omega, by go_num, by rw [Htk.out, hp]; simpa using hown1, hb2⟩
        case measure => simp [intOf]; omega
      · go_wp2_with fail
        refine Hcall.out.mono ?_
        rw [hp]
        rintro e w1 ⟨rfl, hb1⟩
        have hown1 := hown.below hb1
        have hb2 := hb.trans (hb1.mono hb.size)
        have hbs := hb2.size
        go_wp2_with (at_builtin; refine app_str rfl _ _ rfl w.heap.size _ _ rfl hown1 l[j] rfl (by omega) hbs ?_; intro g cap w2 hown2 hbel2 _)
        go_roundw
        case rel => exact ⟨j + 1, by omega, by go_num, by rw [Htk.out, hp]; simpa [OwnS] using hown2, hbel2 _ hb2⟩
        case measure => simp [intOf]; omega
    · go_wp2
      go_ret
      obtain rfl : j = l.length := by omega
      rw [List.take_length] at hown
      exact ⟨_, rfl, hown.strs (fun s hs => Hmax.out s (List.mem_filter.1 hs).1), hb⟩
/-- The words of a length. -/
def wolV (l : List ByteArray) (n : Int) : List ByteArray := if lexB l then l.filter (fun s => decide ((s.size : Int) = n)) else []
theorem wolV_len (l : List ByteArray) (n : Int) (h : l.length ≤ 1048576) : (wolV l n).length ≤ 1048576 := by
  unfold wolV
  split
  · have := List.length_filter_le (fun s : ByteArray => decide ((s.size : Int) = n)) l; omega
  · simp
def lexE (l : List ByteArray) : Int := if lexB l then 0 else 1
theorem strs_nil (w : World) (lo hi : Nat) : StrsW w lo hi (.slice none 0 0) [] := ⟨⟨rfl, none, 0, rfl, Nat.le_refl _, by unfold maxLen; omega, .inl rfl⟩, by simp⟩
theorem wol1_any (s : ByteArray) (g : Nat) (n : Int) (w : World) (hc : w.cell? ⟨g, 0, none⟩ = some (.int .i64 n)) :
    Calls Try.prog 55 #[.string s, .pointer (some ⟨g, 0, none⟩)] w fun e w' => e = .returned (.bool (decide ((s.size : Int) = n))) ∧ Below w.heap.size w w' := by
  have hq : (((s.size : Int)) == n) = decide ((s.size : Int) = n) := rfl
  go_enter Try.func55, Try.ntmps55
  go_wp2
  go_ret
  exact ⟨rfl, Below.refl _ _⟩
set_option maxHeartbeats 1000000 in
theorem implWordsOfLength_any (v : Value) (l : List ByteArray) (n : Int) (w : World) (hv : LexR w v l) (_hn : (Lit.int .i64 n).wf = true) :
    Calls Try.prog 22 #[v, .int .i64 n] w fun e w' => ∃ v', e = .returned (.tuple #[v', .int .i64 (lexE l)]) ∧ StrsW w' w.heap.size w'.heap.size v' (wolV l n) ∧ Below w.heap.size w w' := by
  obtain ⟨s, rfl, hs⟩ := hv
  obtain ⟨a, c, rfl, -, -, -⟩ := hs.shape
  have hb0 : Below w.heap.size w ((w.alloc (.cells #[.slice a l.length c] 27)).alloc (.cells #[.int .i64 n] 2)) := ((Below.refl _ _).alloc (Nat.le_refl _) _).alloc (by simp) _
  have hs0 := hs.below hb0
  have hc0 := cell_alloc (.cells #[.int .i64 n] 2) (cell_newi w #[.slice a l.length c] 27 0 (.slice a l.length c) rfl)
  have hd0 := cell_newi (w.alloc (.cells #[.slice a l.length c] 27)) #[.int .i64 n] 2 0 (.int .i64 n) rfl
  rw [World.size_alloc] at hd0
  have hmf : ∀ (fn : Fn) (first cap : Array Value) (w : World), (Instr.makeFunc fn first cap).run Try.prog w = .ok (.func fn first cap) w := fun _ _ _ _ => rfl
  cases hlex : lexB l
  · have H := Lib.hid hlex
    go_enter Try.func22, Try.ntmps22
    go_wp2_with fail
    refine (implValidLexicon_any _ l _ ⟨_, rfl, hs0⟩).mono ?_
    rw [hlex]
    rintro e w1 ⟨rfl, hb1⟩
    go_wp2
    go_ret2
    exact ⟨_, by rw [lexE, H.out]; rfl, by rw [wolV, H.out]; exact strs_nil _ _ _, hb0.trans (hb1.mono hb0.size)⟩
  · have H := Lib.hid hlex
    go_enter Try.func22, Try.ntmps22
    go_wp2_with fail
    refine (implValidLexicon_any _ l _ ⟨_, rfl, hs0⟩).mono ?_
    rw [hlex]
    rintro e w1 ⟨rfl, hb1⟩
    have hs1 := hs0.below hb1
    have hc1 := cell_below hb1 hc0
    have hd1 := cell_below hb1 hd0
    have hbb := hb0.trans (hb1.mono hb0.size)
    have hl200 := lexB_len H.out
    clear hb1 hc0 hb0 hs0 hlex hd0
    go_wp2_with fail
    refine (selected_any _ l 55 _ (fun s => decide ((s.size : Int) = n)) _ hs1 (by omega) Try.call55 (fun s _ w' hb' => wol1_any s _ n w' (cell_below hb' hd1))).mono ?_
    rintro e w2 ⟨v2, rfl, hv2, hb2⟩
    go_wp2
    go_ret2
    refine ⟨_, by rw [lexE, H.out]; rfl, by rw [wolV, H.out]; exact hv2.mono hbb.size (Nat.le_refl _), hbb.trans (hb2.mono hbb.size)⟩
set_option maxHeartbeats 1000000 in
theorem specWordsOfLength_any (v : Value) (l : List ByteArray) (n : Int) (w : World) (hv : LexR w v l) (_hn : (Lit.int .i64 n).wf = true) :
    Calls Try.prog 21 #[v, .int .i64 n] w fun e w' => ∃ v', e = .returned (.tuple #[v', .int .i64 (lexE l)]) ∧ StrsW w' w.heap.size w'.heap.size v' (wolV l n) ∧ Below w.heap.size w w' := by
  obtain ⟨s, rfl, hs⟩ := hv
  obtain ⟨a, c, rfl, hl, hc, hcs⟩ := hs.shape
  unfold maxLen at hc
  have hb0 : Below w.heap.size w (w.alloc (.cells #[.slice a l.length c] 27)) := (Below.refl _ _).alloc (Nat.le_refl _) _
  have hs0 := hs.below hb0
  have hc0 := cell_newi w #[.slice a l.length c] 27 0 (.slice a l.length c) rfl
  have Hmax := Lib.hid hs.2
  cases hlex : lexB l
  · have H := Lib.hid hlex
    go_enter Try.func21, Try.ntmps21
    go_wp2_with fail
    refine (l05Ok_any w.heap.size _ l _ hc0 hs0).mono ?_
    rw [hlex]
    rintro e w1 ⟨rfl, q, rfl⟩
    go_wp2
    go_ret2
    exact ⟨_, by rw [lexE, H.out]; rfl, by rw [wolV, H.out]; exact strs_nil _ _ _, below_drewN hb0 _⟩
  · have H := Lib.hid hlex
    go_enter Try.func21, Try.ntmps21
    go_wp2_with fail
    refine (l05Ok_any w.heap.size _ l _ hc0 hs0).mono ?_
    rw [hlex]
    rintro e w1 ⟨rfl, q, hw1⟩
    have hb1 : Below w.heap.size w w1 := by rw [hw1]; exact below_drewN hb0 _
    have hc1 : w1.cell? ⟨w.heap.size, 0, none⟩ = some (.slice a l.length c) := by rw [hw1]; exact hc0
    have hl200 := lexB_len H.out
    have hz1 : w.heap.size < w1.heap.size := World.block_lt_of_cell? _ _ hc1
    clear hw1 hc0 hs0 hb0 hlex
    go_wp2
    have hown0 := OwnS.made w1 w1.heap.size (Nat.le_refl _)
    have hb2 : Below w1.heap.size w1 (w1.alloc (.cells #[] 9)) := (Below.refl _ _).alloc (Nat.le_refl _) _
    go_loopw [6, 7] (fun out i wr => ∃ j : Nat, j ≤ l.length ∧ i = .int .i64 (j : Int) ∧ OwnS wr w1.heap.size out ((l.take j).filter (fun s => decide ((s.size : Int) = n))) ∧ Below w1.heap.size w1 wr) (fun _ i _ => l.length - (intOf i).toNat)
    case atStart => exact ⟨0, by omega, rfl, by simpa using hown0, hb2⟩
    case round =>
      obtain ⟨j, hj, rfl, hown, hb⟩ := hrel
      clear hown0 hb2
      have hcr := cell_below hb hc1
      by_cases hlt : j < l.length
      · obtain ⟨b1, o1, rfl, hc2, hs1⟩ := hcs j hlt
        have hw1 : wr.cell? ⟨b1, o1 + j, none⟩ = some (.string l[j]) := (hb.cell (p := ⟨b1, o1 + j, none⟩) (Nat.lt_of_lt_of_le (cell_lt hc2) hb1.size)).trans ((hb1.cell (cell_lt hc2)).trans hc2)
        unfold maxLen at hs1
        clear hcs hc2 hc1
        have hlen : ((l.take j).filter (fun s => decide ((s.size : Int) = n))).length ≤ 1048576 := by have := List.length_filter_le (fun s : ByteArray => decide ((s.size : Int) = n)) (l.take j); simp at this; omega
        have htk := filter_take (fun s : ByteArray => decide ((s.size : Int) = n)) l j hlt
        have Htk := Lib.hid htk
        clear htk
        have hbs := hb.size
        by_cases hp : (l[j].size : Int) = n
        · have hp2 : ((l[j].size : Int) == n) = true := by simpa using hp
          have Hp := Lib.hid hp
          clear hp
          go_wp2_with (at_builtin; refine app_str rfl _ _ rfl w1.heap.size _ _ rfl hown l[j] rfl (by omega) hbs ?_; intro g cap w2 hown2 hbel2 _)
          go_roundw
          case rel => exact ⟨j + 1, by omega, by go_num, by rw [Htk.out, decide_eq_true Hp.out]; simpa [OwnS] using hown2, hbel2 _ hb⟩
          case measure => simp [intOf]; omega
        · have hp2 : ((l[j].size : Int) == n) = false := by simpa using hp
          have Hp := Lib.hid hp
          clear hp
          go_wp2
          go_roundw
          case rel => exact ⟨j + 1, by omega, by go_num, by rw [Htk.out, decide_eq_false Hp.out]; simpa using hown, hb⟩
          case measure => simp [intOf]; omega
      · go_wp2
        go_ret2
        obtain rfl : j = l.length := by omega
        rw [List.take_length] at hown
        exact ⟨_, by rw [lexE, H.out]; rfl, by rw [wolV, H.out]; exact (hown.strs (fun s hs => Hmax.out s (List.mem_filter.1 hs).1)).mono hb1.size (Nat.le_refl _), hb1.trans (hb.mono hb1.size)⟩
end Go.Proofs.Ytlompohfibcjfaa
