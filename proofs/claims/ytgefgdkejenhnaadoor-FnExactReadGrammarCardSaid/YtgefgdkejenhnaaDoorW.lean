/- Contracts of the functions on words, names and piles: small, capital, digit, onlySmall, IsWord, isLong, IsName, place, onlyTiles, ValidPile, in the program and in the reference. Conditions: the strings' lengths are those of Go's strings. -/
import Derived.Test.YtgefgdkejenhnaaDoorB
import Derived.Test.YtgefgdkejenhnaaDoorM
import Derived.BigQuiet
import Derived.Deep.QuietTactic
namespace Go.Proofs.YtgefgdkejenhnaaDoor
open Go.RowKit

theorem quiet_eq {P : Program} {f : FuncId} {args : Array Value} {w : World} {n : Nat} {v : Value}
    (h : Calls P f args (w.drewN n) fun e w' => e = .returned v ∧ w.drewN n = w') : Calls P f args (w.drewN n) fun e w'' => e = .returned v ∧ ∃ m, w'' = w.drewN m :=
  h.mono fun _ _ ⟨he, hm⟩ => ⟨he, n, hm.symm⟩
theorem quiet_eq0 {P : Program} {f : FuncId} {args : Array Value} {w : World} {v : Value}
    (h : Calls P f args w fun e w' => e = .returned v ∧ w = w') : Calls P f args w fun e w'' => e = .returned v ∧ ∃ m, w'' = w.drewN m :=
  h.mono fun _ _ ⟨he, hm⟩ => ⟨he, 0, hm.symm⟩

theorem take_snoc (s : ByteArray) (k : Nat) (h : k < s.size) : s.data.toList.take (k + 1) = s.data.toList.take k ++ [s[k]] := by
  rw [List.take_succ_eq_append_getElem (by simpa using h)]; rfl
theorem take_all (s : ByteArray) : s.data.toList.take s.size = s.data.toList := by
  rw [List.take_of_length_le]; simp
theorem all_take_succ (f : UInt8 → Bool) (s : ByteArray) (k : Nat) (h : k < s.size) : (s.data.toList.take (k+1)).all f = ((s.data.toList.take k).all f && f s[k]) := by
  rw [take_snoc s k h]; simp
theorem all_of_take (f : UInt8 → Bool) (s : ByteArray) (k : Nat) (h : k < s.size) (h' : f s[k] = false) : s.data.toList.all f = false := by
  rw [List.all_eq_false]
  exact ⟨s[k], by simp [ByteArray.getElem_eq_getElem_data], by simp [h']⟩

theorem sortedB_take_succ (s : ByteArray) (k : Nat) (h : k + 1 < s.size) : sortedB (s.data.toList.take (k+2)) = (sortedB (s.data.toList.take (k+1)) && decide (s[k].toNat ≤ s[k+1].toNat)) := by
  rw [take_snoc s (k+1) h, take_snoc s k (by omega), List.append_assoc]
  exact sortedB_snoc _ _ _
theorem sortedB_step (s : ByteArray) (k : Nat) (h0 : 0 < k) (h : k < s.size) : sortedB (s.data.toList.take (k+1)) = (sortedB (s.data.toList.take k) && decide (s[k-1].toNat ≤ s[k].toNat)) := by
  obtain ⟨j, rfl⟩ : ∃ j, k = j + 1 := ⟨k - 1, by omega⟩
  exact sortedB_take_succ s j h
theorem sortedB_one (s : ByteArray) : sortedB (s.data.toList.take 1) = true := by
  cases s.data.toList <;> simp [sortedB]
/-- The world behind '[]byte(s)'. -/
theorem bytes_world (w : World) (s : ByteArray) (cap : Nat) (e : TypeId) : ∃ W0, W0 = (w.alloc (.cells (bytesRow s cap) e ((bytesRow s cap).size, (bytesRow s cap).size + 1))).drew ∧ Below w.heap.size w W0 ∧
    ∀ k, (h : k < s.size) → W0.cell? ⟨w.heap.size, k, none⟩ = some (.int .u8 s[k].toNat) :=
  ⟨_, rfl, ((Below.refl _ _).alloc (Nat.le_refl _) _).drew, fun k h => by
    show (w.alloc _).cell? _ = _
    rw [World.cell?_alloc_mark, bytesRow_at s cap k h]; rfl⟩

theorem l01Small_any (c : Int) (w : World) :
    Calls Tryd.prog 107 #[.int .u8 c] w fun e w' => e = .returned (.bool (smallI c)) ∧ w = w' := by
  by_cases h : 97 ≤ c <;> go_enter Tryd.func107, Tryd.ntmps107 <;> go_wp2 <;> go_ret <;> exact ⟨ret_bool (by simp [smallI] <;> omega), rfl⟩
theorem small_any (c : Int) (w : World) :
    Calls Tryd.prog 98 #[.int .u8 c] w fun e w' => e = .returned (.bool (smallI c)) ∧ w = w' := by
  by_cases h : 97 ≤ c <;> go_enter Tryd.func98, Tryd.ntmps98 <;> go_wp2 <;> go_ret <;> exact ⟨ret_bool (by simp [smallI] <;> omega), rfl⟩
theorem digit_any (c : Int) (w : World) :
    Calls Tryd.prog 99 #[.int .u8 c] w fun e w' => e = .returned (.bool (digI c)) ∧ w = w' := by
  by_cases h : 48 ≤ c <;> go_enter Tryd.func99, Tryd.ntmps99 <;> go_wp2 <;> go_ret <;> exact ⟨ret_bool (by simp [digI] <;> omega), rfl⟩
theorem l01Digit_any (c : Int) (w : World) :
    Calls Tryd.prog 115 #[.int .u8 c] w fun e w' => e = .returned (.bool (digI c)) ∧ w = w' := by
  by_cases h : 48 ≤ c <;> go_enter Tryd.func115, Tryd.ntmps115 <;> go_wp2 <;> go_ret <;> exact ⟨ret_bool (by simp [digI] <;> omega), rfl⟩
theorem l00In_any (n l h : Int) (w : World) :
    Calls Tryd.prog 108 #[.int .i64 n, .int .i64 l, .int .i64 h] w fun e w' => e = .returned (.bool (inI n l h)) ∧ w = w' := by
  by_cases h : l ≤ n <;> go_enter Tryd.func108, Tryd.ntmps108 <;> go_wp2 <;> go_ret <;> exact ⟨ret_bool (by simp [inI] <;> omega), rfl⟩
theorem specIsWord_any (s : ByteArray) (w : World) (hs : s.size ≤ maxLen) :
    Calls Tryd.prog 88 #[.string s] w fun e w' => e = .returned (.bool (isWord s)) ∧ w = w' := by
  unfold maxLen at hs
  go_enter Tryd.func88, Tryd.ntmps88
  go_wp2
  go_loop [3] (fun i => ∃ k : Nat, k ≤ s.size ∧ i = .int .i64 k ∧ smallAll (s.data.toList.take k) = true) (fun i => s.size - (intOf i).toNat)
  case atStart => exact ⟨0, Nat.zero_le _, rfl, rfl⟩
  case round =>
    obtain ⟨k, hk, rfl, hall⟩ := hrel
    have Hall := Lib.hid hall; clear hall
    by_cases hlt : k < s.size
    · cases hsm : smallI s[k].toNat
      · go_wp2_with (go_at_call 107; refine (l01Small_any _ _).mono ?_; rintro e w' ⟨rfl, rfl⟩)
        go_ret
        exact ⟨ret_bool (by rw [isWord, smallAll, all_of_take _ s k hlt hsm]; rfl), rfl⟩
      · go_wp2_with (go_at_call 107; refine (l01Small_any _ _).mono ?_; rintro e w' ⟨rfl, rfl⟩)
        go_round
        case rel => exact ⟨k + 1, by omega, by go_num, by unfold smallAll; rw [all_take_succ _ s k hlt]; show (smallAll _ && _) = true; rw [Hall.out, hsm]; rfl⟩
        case measure => simp [intOf]; omega
    · go_wp2_with (go_at_call 108; refine (l00In_any _ _ _ _).mono ?_; rintro e w' ⟨rfl, rfl⟩)
      go_ret
      obtain rfl : k = s.size := by omega
      have h := Hall.out
      rw [take_all] at h
      exact ⟨ret_bool (by rw [isWord, h]; rfl), rfl⟩
theorem onlySmall_any (s : ByteArray) (w : World) (hs : s.size ≤ maxLen) :
    Calls Tryd.prog 76 #[.string s] w fun e w' => e = .returned (.bool (smallAll s.data.toList)) ∧ Below w.heap.size w w' := by
  unfold maxLen at hs
  have hcv := run_bytes_of_string (P := Tryd.prog) w 9 89 5 s Tryd.underlying9 Tryd.underlying89 Tryd.underlying5
  go_enter Tryd.func76, Tryd.ntmps76
  go_wp2
  obtain ⟨W0, hW, hb, hcell⟩ := bytes_world w s (grownCap w s.size 0 5) 5
  rw [← hW]
  clear hW hcv
  generalize grownCap w s.size 0 5 = cap
  go_loop [8] (fun i => ∃ k : Nat, k ≤ s.size ∧ i = .int .i64 k ∧ smallAll (s.data.toList.take k) = true) (fun i => s.size - (intOf i).toNat)
  case atStart => exact ⟨0, Nat.zero_le _, rfl, rfl⟩
  case round =>
    obtain ⟨k, hk, rfl, hall⟩ := hrel
    have Hall := Lib.hid hall; clear hall
    by_cases hlt : k < s.size
    · have hc := hcell k hlt
      clear hcell
      cases hsm : smallI s[k].toNat
      · go_wp2_with (go_at_call 98; refine (small_any _ _).mono ?_; rintro e w' ⟨rfl, rfl⟩)
        go_ret
        exact ⟨ret_bool (by rw [smallAll, all_of_take _ s k hlt hsm]), hb⟩
      · go_wp2_with (go_at_call 98; refine (small_any _ _).mono ?_; rintro e w' ⟨rfl, rfl⟩)
        go_round
        case rel => exact ⟨k + 1, by omega, by go_num, by unfold smallAll; rw [all_take_succ _ s k hlt]; show (smallAll _ && _) = true; rw [Hall.out, hsm]; rfl⟩
        case measure => simp [intOf]; omega
    · go_wp2
      go_ret
      obtain rfl : k = s.size := by omega
      have h := Hall.out
      rw [take_all] at h
      exact ⟨ret_bool h.symm, hb⟩
theorem implIsWord_any (s : ByteArray) (w : World) (hs : s.size ≤ maxLen) :
    Calls Tryd.prog 89 #[.string s] w fun e w' => e = .returned (.bool (isWord s)) ∧ Below w.heap.size w w' := by
  have hs' := Lib.hid hs
  unfold maxLen at hs
  by_cases h1 : 1 ≤ s.size
  · by_cases h2 : s.size ≤ 12
    · go_enter Tryd.func89, Tryd.ntmps89
      go_wp2_with (go_at_call 76; refine (onlySmall_any _ _ hs'.out).mono ?_; rintro e w' ⟨rfl, hb⟩)
      go_ret
      exact ⟨ret_bool (by simp [isWord, inI]; omega), hb⟩
    · go_enter Tryd.func89, Tryd.ntmps89
      go_wp2
      go_ret
      exact ⟨ret_bool (by simp [isWord, inI]; omega), Below.refl _ _⟩
  · go_enter Tryd.func89, Tryd.ntmps89
    go_wp2
    go_ret
    exact ⟨ret_bool (by simp [isWord, inI]; omega), Below.refl _ _⟩
theorem isLong_any (s : ByteArray) (w : World) (hs : s.size ≤ maxLen) :
    Calls Tryd.prog 48 #[.string s] w fun e w' => e = .returned (.bool (isLong s)) ∧ Below w.heap.size w w' := by
  have hs' := Lib.hid hs
  unfold maxLen at hs
  by_cases h1 : 2 ≤ s.size
  · go_enter Tryd.func48, Tryd.ntmps48
    go_wp2_with (go_at_call 89; refine (implIsWord_any _ _ hs'.out).mono ?_; rintro e w' ⟨rfl, hb⟩)
    go_ret
    exact ⟨ret_bool (by simp [isLong, h1]), hb⟩
  · go_enter Tryd.func48, Tryd.ntmps48
    go_wp2
    go_ret
    exact ⟨ret_bool (by simp [isLong, h1]), Below.refl _ _⟩
theorem l05Long_any (s : ByteArray) (w : World) (hs : s.size ≤ maxLen) :
    Calls Tryd.prog 46 #[.string s] w fun e w' => e = .returned (.bool (isLong s)) ∧ w = w' := by
  have hs' := Lib.hid hs
  unfold maxLen at hs
  by_cases h1 : 2 ≤ s.size
  · go_enter Tryd.func46, Tryd.ntmps46
    go_wp2_with (go_at_call 88; refine (specIsWord_any _ _ hs'.out).mono ?_; rintro e w' ⟨rfl, rfl⟩)
    go_ret
    exact ⟨ret_bool (by simp [isLong, h1]), rfl⟩
  · go_enter Tryd.func46, Tryd.ntmps46
    go_wp2
    go_ret
    exact ⟨ret_bool (by simp [isLong, h1]), rfl⟩

theorem toList_size (s : ByteArray) : s.toList.length = s.size := by rw [ByteArray.toList_eq]; simp
theorem isEmpty_false {s : ByteArray} (h : 0 < s.size) : s.toList.isEmpty = false := by
  have := toList_size s
  cases hl : s.toList with
  | nil => rw [hl] at this; simp at this; omega
  | cons a l => rfl
theorem isEmpty_true {s : ByteArray} (h : s.size = 0) : s.toList.isEmpty = true := by
  have := toList_size s
  cases hl : s.toList with
  | nil => rfl
  | cons a l => rw [hl] at this; simp at this; omega
theorem size_zero {s : ByteArray} (h : s.size = 0) : s = ByteArray.empty := by
  apply ByteArray.ext
  exact Array.eq_empty_of_size_eq_zero h
theorem headD_eq {s : ByteArray} (h : 0 < s.size) : s.data.toList.headD 0 = s[0] := by
  have hl : 0 < s.data.toList.length := by simpa using h
  rw [List.headD_eq_head?_getD, List.head?_eq_getElem?, List.getElem?_eq_getElem hl]; rfl

theorem isName_no {s : ByteArray} (h : s.size = 0 ∨ 12 < s.size) : isName s = false := by
  simp [isName, inI]; omega
theorem isName_first {s : ByteArray} (h : 0 < s.size) (h1 : smallI s[0].toNat = false) : isName s = false := by
  rw [isName, headD_eq h, h1]; simp
theorem isName_yes {s : ByteArray} (h : 0 < s.size) (h2 : s.size ≤ 12) (h1 : smallI s[0].toNat = true) (h3 : nameAll s.data.toList = true) : isName s = true := by
  rw [isName, headD_eq h, h1, h3]; simp [inI]; omega
theorem nameI_true {c : Int} (h : nameI c = true) : smallI c = true ∨ (smallI c = false ∧ digI c = true) ∨ (smallI c = false ∧ digI c = false ∧ c = 45) := by
  unfold nameI at h
  cases h1 : smallI c <;> cases h2 : digI c <;> simp_all
theorem nameI_false {c : Int} (h : nameI c = false) : smallI c = false ∧ digI c = false ∧ c ≠ 45 := by
  unfold nameI at h
  cases h1 : smallI c <;> cases h2 : digI c <;> simp_all
theorem specIsName_any (s : ByteArray) (w : World) (hs : s.size ≤ maxLen) :
    Calls Tryd.prog 96 #[.string s] w fun e w' => e = .returned (.bool (isName s)) ∧ w = w' := by
  unfold maxLen at hs
  by_cases h0 : s.size = 0
  · have H0 := Lib.hid h0
    obtain rfl := size_zero h0
    clear h0
    go_enter Tryd.func96, Tryd.ntmps96
    go_wp2
    go_ret
    exact ⟨ret_bool (isName_no (.inl rfl)).symm, rfl⟩
  · have hpos : 0 < s.size := by omega
    have hemp := isEmpty_false hpos
    clear h0
    by_cases h12 : s.size ≤ 12
    · cases hf : smallI s[0].toNat
      · go_enter Tryd.func96, Tryd.ntmps96
        go_wp2_with (go_at_call 107; refine (l01Small_any _ _).mono ?_; rintro e w' ⟨rfl, rfl⟩)
        go_ret
        exact ⟨ret_bool (isName_first hpos hf).symm, rfl⟩
      · go_enter Tryd.func96, Tryd.ntmps96
        go_wp2_with (go_at_call 107; refine (l01Small_any _ _).mono ?_; rintro e w' ⟨rfl, rfl⟩)
        have Hf := Lib.hid hf; clear hf
        go_loop [3] (fun i => ∃ k : Nat, k ≤ s.size ∧ i = .int .i64 k ∧ nameAll (s.data.toList.take k) = true) (fun i => s.size - (intOf i).toNat)
        case atStart => exact ⟨0, Nat.zero_le _, rfl, rfl⟩
        case round =>
          obtain ⟨k, hk, rfl, hall⟩ := hrel
          have Hall := Lib.hid hall; clear hall
          by_cases hlt : k < s.size
          · cases hn : nameI s[k].toNat
            · obtain ⟨hn1, hn2, hn3⟩ := nameI_false hn
              have hn4 : ((s[k].toNat : Int) != 45) = true := by rw [bne_iff_ne]; exact hn3
              go_wp2_with (first | (go_at_call 107; refine (l01Small_any _ _).mono ?_; rintro e w' ⟨rfl, rfl⟩) | (go_at_call 115; refine (l01Digit_any _ _).mono ?_; rintro e w' ⟨rfl, rfl⟩))
              go_ret
              exact ⟨ret_bool (by rw [isName, nameAll, all_of_take _ s k hlt hn]; rfl), rfl⟩
            · have hnx : nameAll (s.data.toList.take (k + 1)) = true := by unfold nameAll; rw [all_take_succ _ s k hlt]; show (nameAll _ && _) = true; rw [Hall.out, hn]; rfl
              have Hnx := Lib.hid hnx; clear hnx
              rcases nameI_true hn with hn1 | ⟨hn1, hn2⟩ | ⟨hn1, hn2, hn3⟩
              · go_wp2_with (first | (go_at_call 107; refine (l01Small_any _ _).mono ?_; rintro e w' ⟨rfl, rfl⟩) | (go_at_call 115; refine (l01Digit_any _ _).mono ?_; rintro e w' ⟨rfl, rfl⟩))
                go_round
                case rel => exact ⟨k + 1, by omega, by go_num, Hnx.out⟩
                case measure => simp [intOf]; omega
              · go_wp2_with (first | (go_at_call 107; refine (l01Small_any _ _).mono ?_; rintro e w' ⟨rfl, rfl⟩) | (go_at_call 115; refine (l01Digit_any _ _).mono ?_; rintro e w' ⟨rfl, rfl⟩))
                go_round
                case rel => exact ⟨k + 1, by omega, by go_num, Hnx.out⟩
                case measure => simp [intOf]; omega
              · have hn4 : ((s[k].toNat : Int) != 45) = false := by rw [bne_eq_false_iff_eq]; exact hn3
                clear hn3
                go_wp2_with (first | (go_at_call 107; refine (l01Small_any _ _).mono ?_; rintro e w' ⟨rfl, rfl⟩) | (go_at_call 115; refine (l01Digit_any _ _).mono ?_; rintro e w' ⟨rfl, rfl⟩))
                go_round
                case rel => exact ⟨k + 1, by omega, by go_num, Hnx.out⟩
                case measure => simp [intOf]; omega
          · go_wp2
            go_ret
            obtain rfl : k = s.size := by omega
            have h := Hall.out
            rw [take_all] at h
            exact ⟨ret_bool (isName_yes hpos h12 Hf.out h).symm, rfl⟩
    · go_enter Tryd.func96, Tryd.ntmps96
      go_wp2
      go_ret
      exact ⟨ret_bool (isName_no (.inr (by omega))).symm, rfl⟩
theorem implIsName_any (s : ByteArray) (w : World) (hs : s.size ≤ maxLen) :
    Calls Tryd.prog 75 #[.string s] w fun e w' => e = .returned (.bool (isName s)) ∧ w = w' := by
  unfold maxLen at hs
  by_cases h0 : s.size = 0
  · have H0 := Lib.hid h0
    obtain rfl := size_zero h0
    clear h0
    go_enter Tryd.func75, Tryd.ntmps75
    go_wp2
    go_ret
    exact ⟨ret_bool (isName_no (.inl rfl)).symm, rfl⟩
  · have hpos : 0 < s.size := by omega
    have hemp := isEmpty_false hpos
    clear h0
    by_cases h12 : s.size ≤ 12
    · cases hf : smallI s[0].toNat
      · go_enter Tryd.func75, Tryd.ntmps75
        go_wp2_with (go_at_call 98; refine (small_any _ _).mono ?_; rintro e w' ⟨rfl, rfl⟩)
        go_ret
        exact ⟨ret_bool (isName_first hpos hf).symm, rfl⟩
      · go_enter Tryd.func75, Tryd.ntmps75
        go_wp2_with (go_at_call 98; refine (small_any _ _).mono ?_; rintro e w' ⟨rfl, rfl⟩)
        have Hf := Lib.hid hf; clear hf
        go_loop [3] (fun i => ∃ k : Nat, k ≤ s.size ∧ i = .int .i64 k ∧ nameAll (s.data.toList.take k) = true) (fun i => s.size - (intOf i).toNat)
        case atStart => exact ⟨0, Nat.zero_le _, rfl, rfl⟩
        case round =>
          obtain ⟨k, hk, rfl, hall⟩ := hrel
          have Hall := Lib.hid hall; clear hall
          by_cases hlt : k < s.size
          · cases hn : nameI s[k].toNat
            · obtain ⟨hn1, hn2, hn3⟩ := nameI_false hn
              have hn4 : ((s[k].toNat : Int) != 45) = true := by rw [bne_iff_ne]; exact hn3
              go_wp2_with (first | (go_at_call 98; refine (small_any _ _).mono ?_; rintro e w' ⟨rfl, rfl⟩) | (go_at_call 99; refine (digit_any _ _).mono ?_; rintro e w' ⟨rfl, rfl⟩))
              go_ret
              exact ⟨ret_bool (by rw [isName, nameAll, all_of_take _ s k hlt hn]; rfl), rfl⟩
            · have hnx : nameAll (s.data.toList.take (k + 1)) = true := by unfold nameAll; rw [all_take_succ _ s k hlt]; show (nameAll _ && _) = true; rw [Hall.out, hn]; rfl
              have Hnx := Lib.hid hnx; clear hnx
              rcases nameI_true hn with hn1 | ⟨hn1, hn2⟩ | ⟨hn1, hn2, hn3⟩
              · go_wp2_with (first | (go_at_call 98; refine (small_any _ _).mono ?_; rintro e w' ⟨rfl, rfl⟩) | (go_at_call 99; refine (digit_any _ _).mono ?_; rintro e w' ⟨rfl, rfl⟩))
                go_round
                case rel => exact ⟨k + 1, by omega, by go_num, Hnx.out⟩
                case measure => simp [intOf]; omega
              · go_wp2_with (first | (go_at_call 98; refine (small_any _ _).mono ?_; rintro e w' ⟨rfl, rfl⟩) | (go_at_call 99; refine (digit_any _ _).mono ?_; rintro e w' ⟨rfl, rfl⟩))
                go_round
                case rel => exact ⟨k + 1, by omega, by go_num, Hnx.out⟩
                case measure => simp [intOf]; omega
              · have hn4 : ((s[k].toNat : Int) != 45) = false := by rw [bne_eq_false_iff_eq]; exact hn3
                clear hn3
                go_wp2_with (first | (go_at_call 98; refine (small_any _ _).mono ?_; rintro e w' ⟨rfl, rfl⟩) | (go_at_call 99; refine (digit_any _ _).mono ?_; rintro e w' ⟨rfl, rfl⟩))
                go_round
                case rel => exact ⟨k + 1, by omega, by go_num, Hnx.out⟩
                case measure => simp [intOf]; omega
          · go_wp2
            go_ret
            obtain rfl : k = s.size := by omega
            have h := Hall.out
            rw [take_all] at h
            exact ⟨ret_bool (isName_yes hpos h12 Hf.out h).symm, rfl⟩
    · go_enter Tryd.func75, Tryd.ntmps75
      go_wp2
      go_ret
      exact ⟨ret_bool (isName_no (.inr (by omega))).symm, rfl⟩
theorem below_draws {w w' : World} (h : ∃ m, w' = w.drewN m) : Below w.heap.size w w' := by
  obtain ⟨m, rfl⟩ := h; exact below_drewN (Below.refl _ _) _
theorem below_eq {w w' : World} (h : w = w') : Below w.heap.size w w' := by subst h; exact Below.refl _ _
end Go.Proofs.YtgefgdkejenhnaaDoor
