/- WordOf: the small functions of both sides on lists of strings and of stems. No condition but the readings. -/
import Derived.Test.YtgefgdkejenhnaaDoorDe
import Derived.Test.YtgefgdkejenhnaaDoorVg
namespace Go.Proofs.YtgefgdkejenhnaaDoor
open Go.RowKit
theorem Strs.take {w : World} {a : Option Addr} {n c : Nat} {l : List ByteArray} (h : Strs w (.slice a n c) l) (i : Nat) (hi : i ≤ l.length) : Strs w (.slice a i c) (l.take i) := by
  obtain ⟨⟨h1, a', c', e, h2, h3, h4⟩, h5⟩ := h
  injection e with e1 e2 e3
  subst e1
  subst e3
  have hl : (l.take i).length = i := by simp; omega
  refine ⟨⟨by simp, a, c, by rw [hl], by rw [hl]; omega, h3, fun j u hj => ?_⟩, fun s hs => h5 s (List.mem_of_mem_take hs)⟩
  have hjl := (List.getElem?_eq_some_iff.1 hj).1
  simp at hjl
  refine h4 j u ?_
  rw [List.getElem?_map, List.getElem?_take, if_pos (by omega)] at hj
  rw [List.getElem?_map]; exact hj
theorem l04In_any (v : Value) (l : List ByteArray) (s : ByteArray) (w : World) (hv : Strs w v l) :
    Calls Tryd.prog 40 #[v, .string s] w fun e w' => e = .returned (.bool (inB l s)) ∧ w = w' := by
  obtain ⟨a, c, rfl, hl, hc, hcs⟩ := hv.shape
  unfold maxLen at hc
  clear hv
  go_enter Tryd.func40, Tryd.ntmps40
  go_wp2
  go_loop [5] (fun i => ∃ k : Nat, k ≤ l.length ∧ i = .int .i64 k ∧ ∀ i (_hi : i < k), (h : i < l.length) → l[i] ≠ s) (fun i => l.length - (intOf i).toNat)
  case atStart => exact ⟨0, by omega, rfl, fun i hi => by omega⟩
  case round =>
    obtain ⟨k, hk, rfl, hno⟩ := hrel
    have Hno := Lib.hid hno; clear hno
    by_cases hlt : k < l.length
    · obtain ⟨b, off, rfl, h0, -⟩ := hcs k hlt
      clear hcs
      cases he : (l[k].toList == s.toList)
      · have He := Lib.hid (bytes_ne_of he)
        go_wp2
        go_round
        case rel => exact ⟨k + 1, by omega, by go_num, fun i hi h => by
          rcases Nat.lt_succ_iff_lt_or_eq.1 hi with h2 | rfl
          · exact Hno.out i h2 h
          · exact He.out⟩
        case measure => simp [intOf]; omega
      · have He := Lib.hid (bytes_eq_of he)
        go_wp2
        go_ret
        exact ⟨ret_bool (inB_yes hlt He.out).symm, rfl⟩
    · go_wp2
      go_ret
      exact ⟨ret_bool (inB_no fun i hi => Hno.out i (by omega) hi).symm, rfl⟩
theorem indexS_any (v : Value) (l : List ByteArray) (s : ByteArray) (w : World) (hv : Strs w v l) :
    Calls Tryd.prog 86 #[v, .string s] w fun e w' => e = .returned (.int .i64 (idxI l s)) ∧ w = w' := by
  obtain ⟨a, c, rfl, hl, hc, hcs⟩ := hv.shape
  unfold maxLen at hc
  clear hv
  go_enter Tryd.func86, Tryd.ntmps86
  go_wp2
  go_loop [8] (fun i => ∃ k : Nat, k ≤ l.length ∧ i = .int .i64 k ∧ ∀ i (_hi : i < k), (h : i < l.length) → l[i] ≠ s) (fun i => l.length - (intOf i).toNat)
  case atStart => exact ⟨0, by omega, rfl, fun i hi => by omega⟩
  case round =>
    obtain ⟨k, hk, rfl, hno⟩ := hrel
    have Hno := Lib.hid hno; clear hno
    by_cases hlt : k < l.length
    · obtain ⟨b, off, rfl, h0, -⟩ := hcs k hlt
      clear hcs
      cases he : (s.toList == l[k].toList)
      · have He := Lib.hid (bytes_ne_of he)
        go_wp2
        go_round
        case rel => exact ⟨k + 1, by omega, by go_num, fun i hi h => by
          rcases Nat.lt_succ_iff_lt_or_eq.1 hi with h2 | rfl
          · exact Hno.out i h2 h
          · exact fun e => He.out e.symm⟩
        case measure => simp [intOf]; omega
      · have He := Lib.hid (bytes_eq_of he)
        go_wp2
        go_ret
        exact ⟨ret_int (idx_hit hlt He.out.symm fun i hi => Hno.out i hi (by omega)).symm, rfl⟩
    · go_wp2
      go_ret
      exact ⟨ret_int (idx_none fun i hi => Hno.out i (by omega) hi).symm, rfl⟩
theorem containsS_any (v : Value) (l : List ByteArray) (s : ByteArray) (w : World) (hv : Strs w v l) :
    Calls Tryd.prog 85 #[v, .string s] w fun e w' => e = .returned (.bool (inB l s)) ∧ w = w' := by
  have HV := Lib.hid hv
  obtain ⟨a, c, rfl, -⟩ := hv.shape
  have hq := idx_in (l := l) (n := s)
  have Hq := Lib.hid hq
  clear hv hq
  go_enter Tryd.func85, Tryd.ntmps85
  go_wp2_with fail
  refine (indexS_any _ l s _ HV.out).mono ?_
  rintro e w1 ⟨rfl, rfl⟩
  go_wp2
  go_ret
  exact ⟨ret_bool Hq.out, rfl⟩
/-- What l04Uses comes to. -/
def UsesPost (l : List StemD) (n : ByteArray) (w : World) (e : Ending) : Prop :=
  (stmI l n = -1 ∧ e = .returned (.tuple #[.slice none 0 0, .bool false])) ∨ ∃ j, ∃ hj : j < l.length, ∃ u, stmI l n = (j : Int) ∧ Strs w u l[j].uses ∧ e = .returned (.tuple #[u, .bool true])
theorem l04Uses_any (g : Nat) (s2 : Value) (l : List StemD) (n : ByteArray) (w : World) (hc1 : w.cell? ⟨g, 1, none⟩ = some s2) (ha : Stems w s2 l) :
    Calls Tryd.prog 39 #[.pointer (some ⟨g, 0, none⟩), .string n] w fun e w' => UsesPost l n w e ∧ w = w' := by
  obtain ⟨a, c, rfl, hl, hc, hcs⟩ := ha.shape
  unfold maxLen at hc
  clear ha
  go_enter Tryd.func39, Tryd.ntmps39
  go_wp2
  go_loop [6] (fun i => ∃ k : Nat, k ≤ l.length ∧ i = .int .i64 k ∧ ∀ i (_hi : i < k), (h : i < l.length) → l[i].word ≠ n) (fun i => l.length - (intOf i).toNat)
  case atStart => exact ⟨0, by omega, rfl, fun i hi => by omega⟩
  case round =>
    obtain ⟨k, hk, rfl, hno⟩ := hrel
    have Hno := Lib.hid hno; clear hno
    by_cases hlt : k < l.length
    · obtain ⟨b, off, u, rfl, h0, h1, -, hu⟩ := hcs k hlt
      have Hu := Lib.hid hu
      clear hcs hu
      cases he : (l[k].word.toList == n.toList)
      · have He := Lib.hid (bytes_ne_of he)
        go_wp2
        go_round
        case rel => exact ⟨k + 1, by omega, by go_num, fun i hi h => by
          rcases Nat.lt_succ_iff_lt_or_eq.1 hi with h2 | rfl
          · exact Hno.out i h2 h
          · exact He.out⟩
        case measure => simp [intOf]; omega
      · have He := Lib.hid (bytes_eq_of he)
        go_wp2
        go_ret2
        exact ⟨.inr ⟨k, hlt, _, stm_hit hlt He.out fun i hi => Hno.out i hi (by omega), Hu.out, rfl⟩, rfl⟩
    · go_wp2
      go_ret2
      exact ⟨.inl ⟨stm_none fun i hi => Hno.out i (by omega) hi, rfl⟩, rfl⟩
attribute [local irreducible] Calls
theorem isDer1_any (x : StemD) (u : Value) (n : ByteArray) (g : Nat) (w : World) (hc : w.cell? ⟨g, 0, none⟩ = some (.string n)) :
    Calls Tryd.prog 84 #[.agg #[.string x.word, u], .pointer (some ⟨g, 0, none⟩)] w fun e w' => e = .returned (.bool (decide (x.word = n))) ∧ Below w.heap.size w w' := by
  have hn := cell_alloc (.cells #[.string x.word, u] 67) hc
  have hb0 : Below w.heap.size w (w.alloc (.cells #[.string x.word, u] 67)) := (Below.refl _ _).alloc (Nat.le_refl _) _
  cases he : (x.word.toList == n.toList)
  · have He := Lib.hid (bytes_ne_of he)
    go_enter Tryd.func84, Tryd.ntmps84
    go_wp2
    go_ret
    exact ⟨ret_bool (decide_eq_false He.out).symm, hb0⟩
  · have He := Lib.hid (bytes_eq_of he)
    go_enter Tryd.func84, Tryd.ntmps84
    go_wp2
    go_ret
    exact ⟨ret_bool (decide_eq_true He.out).symm, hb0⟩
set_option maxHeartbeats 1000000 in
theorem indexStem_any (v : Value) (l : List StemD) (n : ByteArray) (g : Nat) (w : World) (ha : Stems w v l) (hc : w.cell? ⟨g, 0, none⟩ = some (.string n)) :
    Calls Tryd.prog 83 #[v, .func (.func 84) #[] #[.pointer (some ⟨g, 0, none⟩)]] w fun e w' => e = .returned (.int .i64 (stmI l n)) ∧ Below w.heap.size w w' := by
  obtain ⟨a, c, rfl, hl, hc2, hcs⟩ := ha.shape
  unfold maxLen at hc2
  clear ha
  have hcl := Tryd.call84
  go_enter Tryd.func83, Tryd.ntmps83
  go_wp2
  go_loopw [8] (fun i wr => ∃ k : Nat, k ≤ l.length ∧ i = .int .i64 k ∧ (∀ i (_hi : i < k), (h : i < l.length) → l[i].word ≠ n) ∧ Below w.heap.size w wr) (fun i _ => l.length - (intOf i).toNat)
  case atStart => exact ⟨0, by omega, rfl, fun i hi => by omega, Below.refl _ _⟩
  case round =>
    obtain ⟨k, hk, rfl, hno, hb⟩ := hrel
    have Hno := Lib.hid hno; clear hno
    by_cases hlt : k < l.length
    · obtain ⟨b, off, u, rfl, h0, h1, -, hu⟩ := hcs k hlt
      have h0 := cell_below hb h0
      have h1 := cell_below hb h1
      have Hc := Lib.hid (cell_below hb hc)
      obtain ⟨ua, uc, rfl, -⟩ := hu.shape
      have HB := Lib.hid hb
      clear hcs hu hb hc
      cases he : decide (l[k].word = n)
      · have He := Lib.hid (of_decide_eq_false he)
        go_wp2_with fail
        refine (isDer1_any l[k] _ n g _ Hc.out).mono ?_
        rw [he]
        rintro e w1 ⟨rfl, hb1⟩
        have HB1 := Lib.hid (HB.out.trans (hb1.mono HB.out.size))
        clear hb1 he
        go_wp2
        go_roundw
        case rel => exact ⟨k + 1, by omega, by go_num, fun i hi h => by
          rcases Nat.lt_succ_iff_lt_or_eq.1 hi with h2 | rfl
          · exact Hno.out i h2 h
          · exact He.out, HB1.out⟩
        case measure => simp [intOf]; omega
      · have He := Lib.hid (of_decide_eq_true he)
        go_wp2_with fail
        refine (isDer1_any l[k] _ n g _ Hc.out).mono ?_
        rw [he]
        rintro e w1 ⟨rfl, hb1⟩
        have HB1 := Lib.hid (HB.out.trans (hb1.mono HB.out.size))
        clear hb1 he
        go_wp2
        go_ret
        exact ⟨ret_int (stm_hit hlt He.out fun i hi => Hno.out i hi (by omega)).symm, HB1.out⟩
    · go_wp2
      go_ret
      exact ⟨ret_int (stm_none fun i hi => Hno.out i (by omega) hi).symm, hb⟩
end Go.Proofs.YtgefgdkejenhnaaDoor
