/- WordsOfLength of both sides; selected. No condition but the readings. -/
import Derived.Test.YthpjinfkagllfaaLa
namespace Go.Proofs.Ythpjinfkagllfaa
open Go.RowKit
theorem filter_take {α : Type} (p : α → Bool) (l : List α) (j : Nat) (h : j < l.length) : (l.take (j + 1)).filter p = (l.take j).filter p ++ (if p l[j] then [l[j]] else []) := by
  rw [List.take_succ_eq_append_getElem h, List.filter_append]
  cases hp : p l[j] <;> simp [hp]
set_option maxHeartbeats 1000000 in
theorem selected_any (v : Value) (l : List ByteArray) (k : Nat) (c0 : Value) (p : ByteArray → Bool) (w : World) (hv : Strs w v l) (hn : l.length ≤ 1048576)
    (hk : ∀ (args : Array Value) (w : World), (callFunc k args).run Try.prog w = .ok (.enter k args) w)
    (hf : ∀ s ∈ l, ∀ w', Below w.heap.size w w' → Calls Try.prog k #[.string s, c0] w' fun e w'' => e = .returned (.bool (p s)) ∧ Below w'.heap.size w' w'') :
    Calls Try.prog 61 #[v, .func (.func k) #[] #[c0]] w fun e w' => ∃ v', e = .returned v' ∧ StrsW w' w.heap.size w'.heap.size v' (l.filter p) ∧ Below w.heap.size w w' := by
  obtain ⟨a, c, rfl, hl, hc, hcs⟩ := hv.shape
  unfold maxLen at hc
  have Hmax := Lib.hid hv.2
  have Hf := Lib.hid hf
  clear hv hf
  go_enter Try.func61, Try.ntmps61
  go_wp2
  have hb0 : Below w.heap.size w (w.alloc (.cells #[] 9)) := (Below.refl _ _).alloc (Nat.le_refl _) _
  have hown0 := OwnS.made w w.heap.size (Nat.le_refl _)
  go_loopw [5, 11] (fun out i wr => ∃ j : Nat, j ≤ l.length ∧ i = .int .i64 (j : Int) ∧ OwnS wr w.heap.size out ((l.take j).filter p) ∧ Below w.heap.size w wr) (fun _ i _ => l.length - (intOf i).toNat)
  case atStart => exact ⟨0, by omega, rfl, by simpa using hown0, hb0⟩
  case round =>
    obtain ⟨j, hj, rfl, hown, hb⟩ := hrel
    clear hown0 hb0
    by_cases hlt : j < l.length
    · obtain ⟨b1, o1, rfl, hc1, hs1⟩ := hcs j hlt
      have hw1 : wr.cell? ⟨b1, o1 + j, none⟩ = some (.string l[j]) := (hb.cell (cell_lt hc1)).trans hc1
      clear hcs hc1
      have Hcall := Lib.hid (Hf.out l[j] (List.getElem_mem hlt) wr hb)
      have hlen : ((l.take j).filter p).length ≤ 1048576 := by have := List.length_filter_le p (l.take j); simp at this; omega
      have htk := filter_take p l j hlt
      have Htk := Lib.hid htk
      clear htk
      cases hp : p l[j]
      · go_wp2_with fail
        refine Hcall.out.mono ?_
        rw [hp]
        rintro e w1 ⟨rfl, hb1⟩
        have hown1 := hown.below hb1
        have hb2 := hb.trans (hb1.mono hb.size)
        go_wp2
        go_roundw
        case rel => exact ⟨j + 1, by omega, by go_num, by rw [Htk.out, hp]; simpa using hown1, hb2⟩
        case measure => simp [intOf]; omega
      · go_wp2_with fail
        refine Hcall.out.mono ?_
        rw [hp]
        rintro e w1 ⟨rfl, hb1⟩
        have hown1 := hown.below hb1
        have hb2 := hb.trans (hb1.mono hb.size)
        have hbs := hb2.size
        go_wp2_with (at_builtin; refine app_str rfl _ _ rfl w.heap.size _ _ rfl hown1 l[j] rfl (by omega) hbs ?_; intro g cap w2 hown2 hbel2 _)
        go_roundw
        case rel => exact ⟨j + 1, by omega, by go_num, by rw [Htk.out, hp]; simpa [OwnS] using hown2, hbel2 _ hb2⟩
        case measure => simp [intOf]; omega
    · go_wp2
      go_ret
      obtain rfl : j = l.length := by omega
      rw [List.take_length] at hown
      exact ⟨_, rfl, hown.strs (fun s hs => Hmax.out s (List.mem_filter.1 hs).1), hb⟩
/-- The words of a length. -/
def wolV (l : List ByteArray) (n : Int) : List ByteArray := if lexB l then l.filter (fun s => decide ((s.size : Int) = n)) else []
theorem wolV_len (l : List ByteArray) (n : Int) (h : l.length ≤ 1048576) : (wolV l n).length ≤ 1048576 := by
  unfold wolV
  split
  · have := List.length_filter_le (fun s : ByteArray => decide ((s.size : Int) = n)) l; omega
  · simp
def lexE (l : List ByteArray) : Int := if lexB l then 0 else 1
theorem strs_nil (w : World) (lo hi : Nat) : StrsW w lo hi (.slice none 0 0) [] := ⟨⟨rfl, none, 0, rfl, Nat.le_refl _, by unfold maxLen; omega, .inl rfl⟩, by simp⟩
end Go.Proofs.Ythpjinfkagllfaa
