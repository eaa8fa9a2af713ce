/- LexiconText of both sides. No condition but the readings. -/
import Derived.Test.YtlompohfibcjfaaLa
import Derived.Test.YtlompohfibcjfaaSb
import Derived.Lib.AppendStr
namespace Go.Proofs.Ytlompohfibcjfaa
open Go.RowKit
theorem dlen (s : ByteArray) : s.data.toList.length = s.size := by rw [Array.length_toList]; rfl
/-- append(out, s...) for bytes and a string: one arm of a walk. -/
theorem app_strb {ops : Array Oper} {rest : List Oper} {o : Oper} {a : Act} {Q : Exit → Act → World → Prop} {w : World} (hgd : o.guard = none) (sl x : Operand)
    (ho : o.op = .call { callee := .builtin .append, args := #[sl, x], argTypes := #[45, 9] })
    (B : Nat) (v : Value) (l : List UInt8) (hs : a.eval sl = v) (hown : OwnB w B v l) (s : ByteArray) (hx : a.eval x = .string s)
    (hn : l.length + s.size ≤ 70368744177664) (hB : B ≤ w.heap.size)
    (h : ∀ v' w', OwnB w' B v' (l ++ s.data.toList) → (∀ w0, Below B w0 w → Below B w0 w') → w.grownBy w' v.ownBlock → wpList Try.prog ops Q rest (a.put o.dst v') w') :
    wpList Try.prog ops Q (o :: rest) a w := by
  obtain ⟨i, hi, hz0, hz1, hz2⟩ := info_parts infoU8
  refine Lib.wpList_append_own_string _ hgd sl x 45 9 ho B 5 i Try.underlying45 Try.underlying9 hi hz0 hz1 hz2 v l.length (Lib.byteCells l) hs hown s hx (by unfold maxLen; omega) (by omega) hB ?_
  intro v' w' ho' hg _
  refine h v' w' ?_ (fun w0 hb => hb.grown hg hB (fun k hk => (World.ownsRow.lt hown k hk).1)) hg
  unfold OwnB
  rw [List.length_append, Lib.byteCells_append]
  rw [dlen]
  exact ho'

/-- Words, each ended by a newline. -/
def joinNL (l : List ByteArray) : List UInt8 := l.flatMap fun s => s.data.toList ++ [10]
theorem joinNL_take (l : List ByteArray) (j : Nat) (h : j < l.length) : joinNL (l.take (j + 1)) = joinNL (l.take j) ++ l[j].data.toList ++ [10] := by
  rw [List.take_succ_eq_append_getElem h, joinNL, joinNL, List.flatMap_append]; simp
theorem joinNL_len (l : List ByteArray) (m : Nat) (h : ∀ s ∈ l, s.size ≤ m) : (joinNL l).length ≤ l.length * (m + 1) := by
  induction l with
  | nil => simp [joinNL]
  | cons a l ih =>
    have := ih (fun s hs => h s (by simp [hs]))
    have h2 := h a (by simp)
    have e : (joinNL (a :: l)).length = a.size + 1 + (joinNL l).length := by rw [joinNL, List.flatMap_cons, List.length_append, List.length_append, dlen]; rfl
    rw [e, List.length_cons, Nat.add_one_mul]
    omega
theorem isLong_le {s : ByteArray} (h : isLong s = true) : s.size ≤ 12 := by
  simp only [isLong, isWord, inI, Bool.and_eq_true, decide_eq_true_eq] at h; omega
theorem joinNL_le {l : List ByteArray} (h : lexB l = true) (j : Nat) : (joinNL (l.take j)).length ≤ 2600 := by
  have h1 := joinNL_len (l.take j) 12 (fun s hs => isLong_le (lexB_long h s (List.mem_of_mem_take hs)))
  have h2 := lexB_len h
  have h3 : (l.take j).length ≤ 200 := by simp; omega
  have h4 : (l.take j).length * (12 + 1) ≤ 200 * 13 := Nat.mul_le_mul_right 13 h3
  omega
/-- The text of a lexicon. -/
def lexText (l : List ByteArray) : ByteArray := if lexB l then ⟨(joinNL l).toArray⟩ else ⟨#[]⟩

set_option maxHeartbeats 1000000 in
theorem l05Text_any (v : Value) (l : List ByteArray) (w : World) (hv : Strs w v l) (hlex : lexB l = true) :
    Calls Try.prog 51 #[v] w fun e w' => e = .returned (.string ⟨(joinNL l).toArray⟩) ∧ Below w.heap.size w w' := by
  obtain ⟨a, c, rfl, hl, hc, hcs⟩ := hv.shape
  unfold maxLen at hc
  have Hle := Lib.hid (joinNL_le hlex)
  have Hlong := Lib.hid (lexB_long hlex)
  clear hv hlex
  go_enter Try.func51, Try.ntmps51
  go_wp2
  have hb0 : Below w.heap.size w (w.alloc (.cells #[] 5)) := (Below.refl _ _).alloc (Nat.le_refl _) _
  have hown0 := OwnB.made w w.heap.size (Nat.le_refl _)
  go_loopw [3, 4] (fun out i wr => ∃ j : Nat, j ≤ l.length ∧ i = .int .i64 (j : Int) ∧ OwnB wr w.heap.size out (joinNL (l.take j)) ∧ Below w.heap.size w wr) (fun _ i _ => l.length - (intOf i).toNat)
  case atStart => exact ⟨0, by omega, rfl, by simpa [joinNL] using hown0, hb0⟩
  case round =>
    obtain ⟨j, hj, rfl, hown, hb⟩ := hrel
    clear hown0 hb0
    by_cases hlt : j < l.length
    · obtain ⟨b1, o1, rfl, hc1, hs1⟩ := hcs j hlt
      have hw1 : wr.cell? ⟨b1, o1 + j, none⟩ = some (.string l[j]) := (hb.cell (cell_lt hc1)).trans hc1
      clear hcs hc1
      have hle := Hle.out j
      have hl12 := isLong_le (Hlong.out l[j] (List.getElem_mem hlt))
      have hbs := hb.size
      go_wp2_with (first
        | (at_builtin; refine app_strb rfl _ _ rfl w.heap.size _ _ rfl hown _ rfl (by omega) hbs ?_; intro out2 w1 hown1 hbel1 _)
        | (at_builtin; refine app_byte rfl _ _ rfl w.heap.size _ _ rfl hown1 10 rfl (by rw [List.length_append, dlen]; omega) (hbel1 _ hb).size ?_; intro g cap w2 hown2 hbel2 _))
      have hb2 := hbel2 _ (hbel1 _ hb)
      go_roundw
      case rel => exact ⟨j + 1, by omega, by go_num, by rw [joinNL_take l j hlt]; simpa using hown2, hb2⟩
      case measure => simp [intOf]; omega
    · have hcv := hown.conv
      go_wp2
      go_ret
      obtain rfl : j = l.length := by omega
      exact ⟨ret_str (by rw [List.take_length]), hb⟩
theorem specLexiconText_any (v : Value) (l : List ByteArray) (w : World) (hv : LexR w v l) :
    Calls Try.prog 19 #[v] w fun e w' => e = .returned (.string (lexText l)) ∧ Below w.heap.size w w' := by
  obtain ⟨s, rfl, hs⟩ := hv
  have hb0 : Below w.heap.size w (w.alloc (.cells #[s] 27)) := (Below.refl _ _).alloc (Nat.le_refl _) _
  have hc := cell_newi w #[s] 27 0 s rfl
  have hs0 := hs.below hb0
  cases hlex : lexB l
  · have H := Lib.hid hlex
    go_enter Try.func19, Try.ntmps19
    go_wp2_with fail
    refine (l05Ok_any w.heap.size s l _ hc hs0).mono ?_
    rw [hlex]
    rintro e w1 ⟨rfl, q, rfl⟩
    go_wp2
    go_ret
    exact ⟨ret_str (by rw [lexText, H.out]; rfl), below_drewN hb0 _⟩
  · have H := Lib.hid hlex
    go_enter Try.func19, Try.ntmps19
    go_wp2_with fail
    refine (l05Ok_any w.heap.size s l _ hc hs0).mono ?_
    rw [hlex]
    rintro e w1 ⟨rfl, q, hw1⟩
    have hb1 : Below w.heap.size w w1 := by rw [hw1]; exact below_drewN hb0 _
    have hc1 : w1.cell? ⟨w.heap.size, 0, none⟩ = some s := by rw [hw1]; exact hc
    have hs1 := hs.below hb1
    clear hw1 hc hs hs0 hb0
    go_wp2_with fail
    refine (l05Text_any s l _ hs1 H.out).mono ?_
    rintro e w2 ⟨rfl, hb2⟩
    go_wp2
    go_ret
    exact ⟨ret_str (by rw [lexText, H.out]; rfl), hb1.trans (hb2.mono hb1.size)⟩
set_option maxHeartbeats 1000000 in
theorem implLexiconText_any (v : Value) (l : List ByteArray) (w : World) (hv : LexR w v l) :
    Calls Try.prog 20 #[v] w fun e w' => e = .returned (.string (lexText l)) ∧ Below w.heap.size w w' := by
  obtain ⟨s, rfl, hs⟩ := hv
  obtain ⟨a, c, rfl, hl, hc, hcs⟩ := hs.shape
  unfold maxLen at hc
  have hb0 : Below w.heap.size w (w.alloc (.cells #[.slice a l.length c] 27)) := (Below.refl _ _).alloc (Nat.le_refl _) _
  have hs0 := hs.below hb0
  cases hlex : lexB l
  · have H := Lib.hid hlex
    go_enter Try.func20, Try.ntmps20
    go_wp2_with fail
    refine (implValidLexicon_any _ l _ ⟨_, rfl, hs0⟩).mono ?_
    rw [hlex]
    rintro e w1 ⟨rfl, hb1⟩
    go_wp2
    go_ret
    exact ⟨ret_str (by rw [lexText, H.out]; rfl), hb0.trans (hb1.mono hb0.size)⟩
  · have H := Lib.hid hlex
    have Hle := Lib.hid (joinNL_le hlex)
    have Hlong := Lib.hid (lexB_long hlex)
    have hc0 := cell_newi w #[.slice a l.length c] 27 0 (.slice a l.length c) rfl
    go_enter Try.func20, Try.ntmps20
    go_wp2_with fail
    refine (implValidLexicon_any _ l _ ⟨_, rfl, hs0⟩).mono ?_
    rw [hlex]
    rintro e w1 ⟨rfl, hb1⟩
    have hc1 := cell_below hb1 hc0
    have hbb := hb0.trans (hb1.mono hb0.size)
    clear hb1 hc0 hb0 hs hs0 hlex
    have hc2 := cell_alloc (.cells #[.pointer none, .slice none 0 0] 61) hc1
    go_wp2
    clear hc2
    have hbf := hbb.alloc hbb.size (.cells #[.pointer none, .slice none 0 0] 61)
    have hIs := IsB.fresh w1 w.heap.size hbb.size
    have hsz := hbb.size
    clear hc1
    go_loopw [12] (fun i wr => ∃ j : Nat, j ≤ l.length ∧ i = .int .i64 (j : Int) ∧ IsB w.heap.size w1.heap.size (joinNL (l.take j)) wr ∧ Below w.heap.size w wr) (fun i _ => l.length - (intOf i).toNat)
    case atStart => exact ⟨0, by omega, rfl, by simpa [joinNL] using hIs, hbf⟩
    case round =>
      obtain ⟨j, hj, rfl, hown, hb⟩ := hrel
      clear hIs hbf
      by_cases hlt : j < l.length
      · obtain ⟨b1, o1, rfl, hc1, hs1⟩ := hcs j hlt
        have hw1 : wr.cell? ⟨b1, o1 + j, none⟩ = some (.string l[j]) := (hb.cell (cell_lt hc1)).trans hc1
        clear hcs hc1
        have hle := Hle.out j
        have hl12 := isLong_le (Hlong.out l[j] (List.getElem_mem hlt))
        go_wp2_with fail
        refine (writeString_any w.heap.size w1.heap.size (joinNL (l.take j)) _ _ hown (by rw [ByteArray.size_append]; show _ + (l[j].size + 1) ≤ _; omega) hb.size).mono ?_
        rintro e w2 ⟨rfl, hown2, hb2⟩
        go_wp2
        go_roundw
        case rel => exact ⟨j + 1, by omega, by go_num, by rw [joinNL_take l j hlt]; simpa using hown2, hb.trans hb2⟩
        case measure => simp [intOf]; omega
      · go_wp2_with fail
        refine (Try.Builder_String_any w.heap.size w1.heap.size _ _ hown hb.size).mono ?_
        rintro e w2 ⟨rfl, hb2⟩
        go_wp2
        go_ret
        obtain rfl : j = l.length := by omega
        exact ⟨ret_str (by rw [lexText, H.out, List.take_length]; rfl), hb.trans (by first | exact hb2 | exact hb2.mono hb.size | (subst hb2; exact Below.refl _ _))⟩
end Go.Proofs.Ytlompohfibcjfaa
