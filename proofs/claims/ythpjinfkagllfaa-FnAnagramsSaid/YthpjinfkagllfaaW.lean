/- Contracts of the functions on words, names and piles: small, capital, digit, onlySmall, IsWord, isLong, IsName, place, onlyTiles, ValidPile, in the program and in the reference. Conditions: the strings' lengths are those of Go's strings. -/
import Derived.Test.YthpjinfkagllfaaB
import Derived.Test.YthpjinfkagllfaaM
import Derived.BigQuiet
import Derived.Deep.QuietTactic
namespace Go.Proofs.Ythpjinfkagllfaa
open Go.RowKit

theorem quiet_eq {P : Program} {f : FuncId} {args : Array Value} {w : World} {n : Nat} {v : Value}
    (h : Calls P f args (w.drewN n) fun e w' => e = .returned v ∧ w.drewN n = w') : Calls P f args (w.drewN n) fun e w'' => e = .returned v ∧ ∃ m, w'' = w.drewN m :=
  h.mono fun _ _ ⟨he, hm⟩ => ⟨he, n, hm.symm⟩
theorem quiet_eq0 {P : Program} {f : FuncId} {args : Array Value} {w : World} {v : Value}
    (h : Calls P f args w fun e w' => e = .returned v ∧ w = w') : Calls P f args w fun e w'' => e = .returned v ∧ ∃ m, w'' = w.drewN m :=
  h.mono fun _ _ ⟨he, hm⟩ => ⟨he, 0, hm.symm⟩

theorem take_snoc (s : ByteArray) (k : Nat) (h : k < s.size) : s.data.toList.take (k + 1) = s.data.toList.take k ++ [s[k]] := by
  rw [List.take_succ_eq_append_getElem (by simpa using h)]; rfl
theorem take_all (s : ByteArray) : s.data.toList.take s.size = s.data.toList := by
  rw [List.take_of_length_le]; simp
theorem all_take_succ (f : UInt8 → Bool) (s : ByteArray) (k : Nat) (h : k < s.size) : (s.data.toList.take (k+1)).all f = ((s.data.toList.take k).all f && f s[k]) := by
  rw [take_snoc s k h]; simp
theorem all_of_take (f : UInt8 → Bool) (s : ByteArray) (k : Nat) (h : k < s.size) (h' : f s[k] = false) : s.data.toList.all f = false := by
  rw [List.all_eq_false]
  exact ⟨s[k], by simp [ByteArray.getElem_eq_getElem_data], by simp [h']⟩

theorem sortedB_take_succ (s : ByteArray) (k : Nat) (h : k + 1 < s.size) : sortedB (s.data.toList.take (k+2)) = (sortedB (s.data.toList.take (k+1)) && decide (s[k].toNat ≤ s[k+1].toNat)) := by
  rw [take_snoc s (k+1) h, take_snoc s k (by omega), List.append_assoc]
  exact sortedB_snoc _ _ _
theorem sortedB_step (s : ByteArray) (k : Nat) (h0 : 0 < k) (h : k < s.size) : sortedB (s.data.toList.take (k+1)) = (sortedB (s.data.toList.take k) && decide (s[k-1].toNat ≤ s[k].toNat)) := by
  obtain ⟨j, rfl⟩ : ∃ j, k = j + 1 := ⟨k - 1, by omega⟩
  exact sortedB_take_succ s j h
theorem sortedB_one (s : ByteArray) : sortedB (s.data.toList.take 1) = true := by
  cases s.data.toList <;> simp [sortedB]
/-- The world behind '[]byte(s)'. -/
theorem bytes_world (w : World) (s : ByteArray) (cap : Nat) (e : TypeId) : ∃ W0, W0 = (w.alloc (.cells (bytesRow s cap) e ((bytesRow s cap).size, (bytesRow s cap).size + 1))).drew ∧ Below w.heap.size w W0 ∧
    ∀ k, (h : k < s.size) → W0.cell? ⟨w.heap.size, k, none⟩ = some (.int .u8 s[k].toNat) :=
  ⟨_, rfl, ((Below.refl _ _).alloc (Nat.le_refl _) _).drew, fun k h => by
    show (w.alloc _).cell? _ = _
    rw [World.cell?_alloc_mark, bytesRow_at s cap k h]; rfl⟩

theorem l01Small_any (c : Int) (w : World) :
    Calls Try.prog 69 #[.int .u8 c] w fun e w' => e = .returned (.bool (smallI c)) ∧ w = w' := by
  by_cases h : 97 ≤ c <;> go_enter Try.func69, Try.ntmps69 <;> go_wp2 <;> go_ret <;> exact ⟨ret_bool (by simp [smallI] <;> omega), rfl⟩
theorem small_any (c : Int) (w : World) :
    Calls Try.prog 92 #[.int .u8 c] w fun e w' => e = .returned (.bool (smallI c)) ∧ w = w' := by
  by_cases h : 97 ≤ c <;> go_enter Try.func92, Try.ntmps92 <;> go_wp2 <;> go_ret <;> exact ⟨ret_bool (by simp [smallI] <;> omega), rfl⟩
theorem l03Capital_any (c : Int) (w : World) :
    Calls Try.prog 90 #[.int .u8 c] w fun e w' => e = .returned (.bool (capI c)) ∧ w = w' := by
  by_cases h : 65 ≤ c <;> go_enter Try.func90, Try.ntmps90 <;> go_wp2 <;> go_ret <;> exact ⟨ret_bool (by simp [capI] <;> omega), rfl⟩
theorem l00In_any (n l h : Int) (w : World) :
    Calls Try.prog 70 #[.int .i64 n, .int .i64 l, .int .i64 h] w fun e w' => e = .returned (.bool (inI n l h)) ∧ w = w' := by
  by_cases h : l ≤ n <;> go_enter Try.func70, Try.ntmps70 <;> go_wp2 <;> go_ret <;> exact ⟨ret_bool (by simp [inI] <;> omega), rfl⟩
theorem l03Tile_any (c : Int) (w : World) :
    Calls Try.prog 68 #[.int .u8 c] w fun e w' => e = .returned (.bool (tileI c)) ∧ w = w' := by
  by_cases h : c = 63
  · subst h
    go_enter Try.func68, Try.ntmps68
    go_wp2
    go_ret
    exact ⟨ret_bool (by simp [tileI]), rfl⟩
  · have h' : (c == 63) = false := by simpa using h
    go_enter Try.func68, Try.ntmps68
    go_wp2_with (go_at_call 69; refine (l01Small_any _ _).mono ?_; rintro e w' ⟨rfl, rfl⟩)
    go_ret
    exact ⟨ret_bool (by simp [tileI, h]), rfl⟩
theorem place_any (c : Int) (w : World) (h0 : 0 ≤ c) (h1 : c ≤ 255) :
    Calls Try.prog 76 #[.int .u8 c] w fun e w' => e = .returned (.int .i64 (placeI c)) ∧ w = w' := by
  by_cases h : c = 63
  · subst h
    go_enter Try.func76, Try.ntmps76
    go_wp2
    go_ret
    exact ⟨ret_int (by simp [placeI]), rfl⟩
  · have h' : (c == 63) = false := by simpa using h
    cases hs : smallI c
    · go_enter Try.func76, Try.ntmps76
      go_wp2_with (go_at_call 92; refine (small_any _ _).mono ?_; rintro e w' ⟨rfl, rfl⟩)
      go_ret
      exact ⟨ret_int (by simp [placeI, hs, h]), rfl⟩
    · have hs' : 97 ≤ c ∧ c ≤ 122 := by simpa [smallI] using hs
      obtain ⟨hs1, hs2⟩ := hs'
      go_enter Try.func76, Try.ntmps76
      go_wp2_with (go_at_call 92; refine (small_any _ _).mono ?_; rintro e w' ⟨rfl, rfl⟩)
      go_ret
      exact ⟨ret_int (by simp [placeI, hs, h]; omega), rfl⟩
theorem specIsWord_any (s : ByteArray) (w : World) (hs : s.size ≤ maxLen) :
    Calls Try.prog 33 #[.string s] w fun e w' => e = .returned (.bool (isWord s)) ∧ w = w' := by
  unfold maxLen at hs
  go_enter Try.func33, Try.ntmps33
  go_wp2
  go_loop [3] (fun i => ∃ k : Nat, k ≤ s.size ∧ i = .int .i64 k ∧ smallAll (s.data.toList.take k) = true) (fun i => s.size - (intOf i).toNat)
  case atStart => exact ⟨0, Nat.zero_le _, rfl, rfl⟩
  case round =>
    obtain ⟨k, hk, rfl, hall⟩ := hrel
    have Hall := Lib.hid hall; clear hall
    by_cases hlt : k < s.size
    · cases hsm : smallI s[k].toNat
      · go_wp2_with (go_at_call 69; refine (l01Small_any _ _).mono ?_; rintro e w' ⟨rfl, rfl⟩)
        go_ret
        exact ⟨ret_bool (by rw [isWord, smallAll, all_of_take _ s k hlt hsm]; rfl), rfl⟩
      · go_wp2_with (go_at_call 69; refine (l01Small_any _ _).mono ?_; rintro e w' ⟨rfl, rfl⟩)
        go_round
        case rel => exact ⟨k + 1, by omega, by go_num, by unfold smallAll; rw [all_take_succ _ s k hlt]; show (smallAll _ && _) = true; rw [Hall.out, hsm]; rfl⟩
        case measure => simp [intOf]; omega
    · go_wp2_with (go_at_call 70; refine (l00In_any _ _ _ _).mono ?_; rintro e w' ⟨rfl, rfl⟩)
      go_ret
      obtain rfl : k = s.size := by omega
      have h := Hall.out
      rw [take_all] at h
      exact ⟨ret_bool (by rw [isWord, h]; rfl), rfl⟩
theorem onlySmall_any (s : ByteArray) (w : World) (hs : s.size ≤ maxLen) :
    Calls Try.prog 74 #[.string s] w fun e w' => e = .returned (.bool (smallAll s.data.toList)) ∧ Below w.heap.size w w' := by
  unfold maxLen at hs
  have hcv := run_bytes_of_string (P := Try.prog) w 9 30 5 s Try.underlying9 Try.underlying30 Try.underlying5
  go_enter Try.func74, Try.ntmps74
  go_wp2
  obtain ⟨W0, hW, hb, hcell⟩ := bytes_world w s (grownCap w s.size 0 5) 5
  rw [← hW]
  clear hW hcv
  generalize grownCap w s.size 0 5 = cap
  go_loop [8] (fun i => ∃ k : Nat, k ≤ s.size ∧ i = .int .i64 k ∧ smallAll (s.data.toList.take k) = true) (fun i => s.size - (intOf i).toNat)
  case atStart => exact ⟨0, Nat.zero_le _, rfl, rfl⟩
  case round =>
    obtain ⟨k, hk, rfl, hall⟩ := hrel
    have Hall := Lib.hid hall; clear hall
    by_cases hlt : k < s.size
    · have hc := hcell k hlt
      clear hcell
      cases hsm : smallI s[k].toNat
      · go_wp2_with (go_at_call 92; refine (small_any _ _).mono ?_; rintro e w' ⟨rfl, rfl⟩)
        go_ret
        exact ⟨ret_bool (by rw [smallAll, all_of_take _ s k hlt hsm]), hb⟩
      · go_wp2_with (go_at_call 92; refine (small_any _ _).mono ?_; rintro e w' ⟨rfl, rfl⟩)
        go_round
        case rel => exact ⟨k + 1, by omega, by go_num, by unfold smallAll; rw [all_take_succ _ s k hlt]; show (smallAll _ && _) = true; rw [Hall.out, hsm]; rfl⟩
        case measure => simp [intOf]; omega
    · go_wp2
      go_ret
      obtain rfl : k = s.size := by omega
      have h := Hall.out
      rw [take_all] at h
      exact ⟨ret_bool h.symm, hb⟩
theorem implIsWord_any (s : ByteArray) (w : World) (hs : s.size ≤ maxLen) :
    Calls Try.prog 37 #[.string s] w fun e w' => e = .returned (.bool (isWord s)) ∧ Below w.heap.size w w' := by
  have hs' := Lib.hid hs
  unfold maxLen at hs
  by_cases h1 : 1 ≤ s.size
  · by_cases h2 : s.size ≤ 12
    · go_enter Try.func37, Try.ntmps37
      go_wp2_with (go_at_call 74; refine (onlySmall_any _ _ hs'.out).mono ?_; rintro e w' ⟨rfl, hb⟩)
      go_ret
      exact ⟨ret_bool (by simp [isWord, inI]; omega), hb⟩
    · go_enter Try.func37, Try.ntmps37
      go_wp2
      go_ret
      exact ⟨ret_bool (by simp [isWord, inI]; omega), Below.refl _ _⟩
  · go_enter Try.func37, Try.ntmps37
    go_wp2
    go_ret
    exact ⟨ret_bool (by simp [isWord, inI]; omega), Below.refl _ _⟩
theorem isLong_any (s : ByteArray) (w : World) (hs : s.size ≤ maxLen) :
    Calls Try.prog 89 #[.string s] w fun e w' => e = .returned (.bool (isLong s)) ∧ Below w.heap.size w w' := by
  have hs' := Lib.hid hs
  unfold maxLen at hs
  by_cases h1 : 2 ≤ s.size
  · go_enter Try.func89, Try.ntmps89
    go_wp2_with (go_at_call 37; refine (implIsWord_any _ _ hs'.out).mono ?_; rintro e w' ⟨rfl, hb⟩)
    go_ret
    exact ⟨ret_bool (by simp [isLong, h1]), hb⟩
  · go_enter Try.func89, Try.ntmps89
    go_wp2
    go_ret
    exact ⟨ret_bool (by simp [isLong, h1]), Below.refl _ _⟩
theorem l05Long_any (s : ByteArray) (w : World) (hs : s.size ≤ maxLen) :
    Calls Try.prog 87 #[.string s] w fun e w' => e = .returned (.bool (isLong s)) ∧ w = w' := by
  have hs' := Lib.hid hs
  unfold maxLen at hs
  by_cases h1 : 2 ≤ s.size
  · go_enter Try.func87, Try.ntmps87
    go_wp2_with (go_at_call 33; refine (specIsWord_any _ _ hs'.out).mono ?_; rintro e w' ⟨rfl, rfl⟩)
    go_ret
    exact ⟨ret_bool (by simp [isLong, h1]), rfl⟩
  · go_enter Try.func87, Try.ntmps87
    go_wp2
    go_ret
    exact ⟨ret_bool (by simp [isLong, h1]), rfl⟩
theorem l03Pile_any (s : ByteArray) (w : World) (hs : s.size ≤ maxLen) :
    Calls Try.prog 32 #[.string s] w fun e w' => e = .returned (.bool (isPile s)) ∧ ∃ m, w' = w.drewN m := by
  unfold maxLen at hs
  go_enter Try.func32, Try.ntmps32
  go_wp2
  go_loopw [3] (fun i wr => ∃ k m : Nat, k ≤ s.size ∧ i = .int .i64 k ∧ tileAll (s.data.toList.take k) = true ∧ sortedB (s.data.toList.take k) = true ∧ wr = w.drewN m) (fun i _ => s.size - (intOf i).toNat)
  case atStart => exact ⟨0, 0, Nat.zero_le _, rfl, rfl, rfl, rfl⟩
  case round =>
    obtain ⟨k, m, hk, rfl, hall, hso, hwr⟩ := hrel
    have Hwr : Hid (∀ n, wr.drewN n = w.drewN (m + n)) := Lib.hid (by intro n; rw [hwr, World.drewN_drewN])
    have Hwr0 := Lib.hid hwr; clear hwr
    have Hall := Lib.hid hall; clear hall
    have Hso := Lib.hid hso; clear hso
    by_cases hlt : k < s.size
    · cases hsm : tileI s[k].toNat
      · go_wp2
        go_quiet ((go_at_call 68; exact quiet_eq (l03Tile_any _ _)))
        go_wp2
        go_ret
        exact ⟨ret_bool (by rw [isPile, tileAll, all_of_take _ s k hlt hsm]; rfl), _, Hwr.out _⟩
      · by_cases h0 : k = 0
        · subst h0
          go_wp2
          go_quiet ((go_at_call 68; exact quiet_eq (l03Tile_any _ _)))
          go_wp2
          go_roundw
          case rel => exact ⟨1, m + nq, by omega, by go_num, by unfold tileAll; rw [all_take_succ _ s 0 hlt]; simpa using hsm, sortedB_one s, Hwr.out _⟩
          case measure => simp [intOf]; omega
        · have hk0 : 0 < k := by omega
          have hk1 : (0 : Int) < (k : Int) := by omega
          clear h0
          have hk2 : (1 : Int) ≤ (k : Int) := by omega
          have hk3 : (k : Int) - 1 < (s.size : Int) := by omega
          by_cases hle : s[k-1].toNat ≤ s[k].toNat
          · have hd : decide ((s[k].toNat : Int) < (s[k-1].toNat : Int)) = false := by simp; omega
            have hwp : IntKind.i64.wrap ((k : Int) - 1) = (k : Int) - 1 := IntWalk.i64_in _ (by omega)
            go_wp2
            go_quiet ((go_at_call 68; exact quiet_eq (l03Tile_any _ _)))
            clear hwp
            go_wp2
            go_roundw
            case rel => exact ⟨k + 1, m + nq, by omega, by go_num, by unfold tileAll; rw [all_take_succ _ s k hlt]; show (tileAll _ && _) = true; rw [Hall.out, hsm]; rfl, by rw [sortedB_step s k hk0 hlt, Hso.out]; simp [hle], Hwr.out _⟩
            case measure => simp [intOf]; omega
          · have hd : decide ((s[k].toNat : Int) < (s[k-1].toNat : Int)) = true := by simp; omega
            have hwp : IntKind.i64.wrap ((k : Int) - 1) = (k : Int) - 1 := IntWalk.i64_in _ (by omega)
            go_wp2
            go_quiet ((go_at_call 68; exact quiet_eq (l03Tile_any _ _)))
            clear hwp
            go_wp2
            go_ret
            exact ⟨ret_bool (by rw [isPile, sortedB_of_take s.size _ (k + 1) (by simp) (by rw [sortedB_step s k hk0 hlt]; simp [hle])]; simp), _, Hwr.out _⟩
    · go_wp2
      go_ret
      obtain rfl : k = s.size := by omega
      have h1 := Hall.out
      have h2 := Hso.out
      rw [take_all] at h1 h2
      exact ⟨ret_bool (by rw [isPile, h1, h2]; simp; omega), m, Hwr0.out⟩

theorem onlyTiles_any (s : ByteArray) (w : World) (hs : s.size ≤ maxLen) :
    Calls Try.prog 73 #[.string s] w fun e w' => e = .returned (.bool (tileAll s.data.toList)) ∧ w = w' := by
  unfold maxLen at hs
  go_enter Try.func73, Try.ntmps73
  go_wp2
  go_loop [3] (fun i => ∃ k : Nat, k ≤ s.size ∧ i = .int .i64 k ∧ tileAll (s.data.toList.take k) = true) (fun i => s.size - (intOf i).toNat)
  case atStart => exact ⟨0, Nat.zero_le _, rfl, rfl⟩
  case round =>
    obtain ⟨k, hk, rfl, hall⟩ := hrel
    have Hall := Lib.hid hall; clear hall
    by_cases hlt : k < s.size
    · cases hsm : tileI s[k].toNat
      · have hp : placeI s[k].toNat < 0 := by rw [placeI_none hsm]; omega
        go_wp2_with (go_at_call 76; refine (place_any _ _ (byte_range _).1 (byte_range _).2).mono ?_; rintro e w' ⟨rfl, rfl⟩)
        go_ret
        exact ⟨ret_bool (by rw [tileAll, all_of_take _ s k hlt hsm]), rfl⟩
      · have hp : 0 ≤ placeI s[k].toNat := (placeI_tile hsm).1
        go_wp2_with (go_at_call 76; refine (place_any _ _ (byte_range _).1 (byte_range _).2).mono ?_; rintro e w' ⟨rfl, rfl⟩)
        go_round
        case rel => exact ⟨k + 1, by omega, by go_num, by unfold tileAll; rw [all_take_succ _ s k hlt]; show (tileAll _ && _) = true; rw [Hall.out, hsm]; rfl⟩
        case measure => simp [intOf]; omega
    · go_wp2
      go_ret
      obtain rfl : k = s.size := by omega
      have h := Hall.out
      rw [take_all] at h
      exact ⟨ret_bool h.symm, rfl⟩
theorem implValidPile_any (s : ByteArray) (w : World) (hs : s.size ≤ maxLen) :
    Calls Try.prog 36 #[.string s] w fun e w' => e = .returned (.bool (isPile s)) ∧ ∃ m, w' = w.drewN m := by
  have hs' := Lib.hid hs
  unfold maxLen at hs
  by_cases h1 : s.size ≤ 120
  · cases ht : tileAll s.data.toList
    · go_enter Try.func36, Try.ntmps36
      go_wp2_with (go_at_call 73; refine (onlyTiles_any _ _ hs'.out).mono ?_; rintro e w' ⟨rfl, rfl⟩)
      go_ret
      exact ⟨ret_bool (by simp [isPile, ht]), 0, rfl⟩
    · have Ht := Lib.hid ht
      go_enter Try.func36, Try.ntmps36
      go_wp2_with (go_at_call 73; refine (onlyTiles_any _ _ hs'.out).mono ?_; rintro e w' ⟨rfl, rfl⟩)
      go_loopw [3] (fun i wr => ∃ k m : Nat, 1 ≤ k ∧ (k ≤ s.size ∨ k = 1) ∧ i = .int .i64 k ∧ sortedB (s.data.toList.take k) = true ∧ wr = w.drewN m) (fun i _ => s.size - (intOf i).toNat)
      case atStart => exact ⟨1, 0, Nat.le_refl _, .inr rfl, rfl, sortedB_one s, rfl⟩
      case round =>
        obtain ⟨k, m, hk0, hk, rfl, hso, hwr⟩ := hrel
        have Hwr : Hid (∀ n, wr.drewN n = w.drewN (m + n)) := Lib.hid (by intro n; rw [hwr, World.drewN_drewN])
        have Hwr0 := Lib.hid hwr; clear hwr
        have Hso := Lib.hid hso; clear hso
        have hkm : k ≤ 121 := by omega
        by_cases hlt : k < s.size
        · have Hk := Lib.hid hk; clear hk
          have hk2 : (1 : Int) ≤ (k : Int) := by omega
          have hk3 : (k : Int) - 1 < (s.size : Int) := by omega
          by_cases hle : s[k-1].toNat ≤ s[k].toNat
          · have hd : decide ((s[k].toNat : Int) < (s[k-1].toNat : Int)) = false := by simp; omega
            have hwp : IntKind.i64.wrap ((k : Int) - 1) = (k : Int) - 1 := IntWalk.i64_in _ (by omega)
            go_wp2
            go_quiet (fail)
            clear hwp
            go_wp2
            go_roundw
            case rel => exact ⟨k + 1, m + nq, by omega, by omega, by go_num, by rw [sortedB_step s k hk0 hlt, Hso.out]; simp [hle], Hwr.out _⟩
            case measure => simp [intOf]; omega
          · have hd : decide ((s[k].toNat : Int) < (s[k-1].toNat : Int)) = true := by simp; omega
            have hwp : IntKind.i64.wrap ((k : Int) - 1) = (k : Int) - 1 := IntWalk.i64_in _ (by omega)
            go_wp2
            go_quiet (fail)
            clear hwp
            go_wp2
            go_ret
            exact ⟨ret_bool (by rw [isPile, sortedB_of_take s.size _ (k + 1) (by simp) (by rw [sortedB_step s k hk0 hlt]; simp [hle])]; simp), _, Hwr.out _⟩
        · go_wp2
          go_ret
          have h2 := Hso.out
          rw [List.take_of_length_le (by simp; omega)] at h2
          exact ⟨ret_bool (by rw [isPile, Ht.out, h2]; simp; omega), m, Hwr0.out⟩
  · go_enter Try.func36, Try.ntmps36
    go_wp2
    go_ret
    exact ⟨ret_bool (by simp [isPile, h1]), 0, rfl⟩
theorem toList_size (s : ByteArray) : s.toList.length = s.size := by rw [ByteArray.toList_eq]; simp
theorem isEmpty_false {s : ByteArray} (h : 0 < s.size) : s.toList.isEmpty = false := by
  have := toList_size s
  cases hl : s.toList with
  | nil => rw [hl] at this; simp at this; omega
  | cons a l => rfl
theorem isEmpty_true {s : ByteArray} (h : s.size = 0) : s.toList.isEmpty = true := by
  have := toList_size s
  cases hl : s.toList with
  | nil => rfl
  | cons a l => rw [hl] at this; simp at this; omega
theorem size_zero {s : ByteArray} (h : s.size = 0) : s = ByteArray.empty := by
  apply ByteArray.ext
  exact Array.eq_empty_of_size_eq_zero h
theorem headD_eq {s : ByteArray} (h : 0 < s.size) : s.data.toList.headD 0 = s[0] := by
  have hl : 0 < s.data.toList.length := by simpa using h
  rw [List.headD_eq_head?_getD, List.head?_eq_getElem?, List.getElem?_eq_getElem hl]; rfl

theorem isName_no {s : ByteArray} (h : s.size = 0 ∨ 12 < s.size) : isName s = false := by
  simp [isName, inI]; omega
theorem isName_first {s : ByteArray} (h : 0 < s.size) (h1 : smallI s[0].toNat = false) : isName s = false := by
  rw [isName, headD_eq h, h1]; simp
theorem isName_yes {s : ByteArray} (h : 0 < s.size) (h2 : s.size ≤ 12) (h1 : smallI s[0].toNat = true) (h3 : nameAll s.data.toList = true) : isName s = true := by
  rw [isName, headD_eq h, h1, h3]; simp [inI]; omega
theorem nameI_true {c : Int} (h : nameI c = true) : smallI c = true ∨ (smallI c = false ∧ digI c = true) ∨ (smallI c = false ∧ digI c = false ∧ c = 45) := by
  unfold nameI at h
  cases h1 : smallI c <;> cases h2 : digI c <;> simp_all
theorem nameI_false {c : Int} (h : nameI c = false) : smallI c = false ∧ digI c = false ∧ c ≠ 45 := by
  unfold nameI at h
  cases h1 : smallI c <;> cases h2 : digI c <;> simp_all
theorem below_draws {w w' : World} (h : ∃ m, w' = w.drewN m) : Below w.heap.size w w' := by
  obtain ⟨m, rfl⟩ := h; exact below_drewN (Below.refl _ _) _
theorem below_eq {w w' : World} (h : w = w') : Below w.heap.size w w' := by subst h; exact Below.refl _ _
theorem ivp_any (s : ByteArray) (w : World) (hs : s.size ≤ maxLen) :
    Calls Try.prog 36 #[.string s] w fun e w' => e = .returned (.bool (isPile s)) ∧ Below w.heap.size w w' :=
  (implValidPile_any s w hs).mono fun _ _ ⟨h1, h2⟩ => ⟨h1, below_draws h2⟩
theorem svp_any (s : ByteArray) (w : World) (hs : s.size ≤ maxLen) :
    Calls Try.prog 32 #[.string s] w fun e w' => e = .returned (.bool (isPile s)) ∧ Below w.heap.size w w' :=
  (l03Pile_any s w hs).mono fun _ _ ⟨h1, h2⟩ => ⟨h1, below_draws h2⟩
end Go.Proofs.Ythpjinfkagllfaa
