/- Contracts of the functions on words, names and piles: small, capital, digit, onlySmall, IsWord, isLong, IsName, place, onlyTiles, ValidPile, in the program and in the reference. Conditions: the strings' lengths are those of Go's strings. -/
import Derived.Test.YtinmmbnlflmobaaGreatDoorB
import Derived.Test.YtinmmbnlflmobaaGreatDoorM
import Derived.BigQuiet
import Derived.Deep.QuietTactic
namespace Go.Proofs.YtinmmbnlflmobaaGreatDoor
open Go.RowKit

theorem quiet_eq {P : Program} {f : FuncId} {args : Array Value} {w : World} {n : Nat} {v : Value}
    (h : Calls P f args (w.drewN n) fun e w' => e = .returned v ∧ w.drewN n = w') : Calls P f args (w.drewN n) fun e w'' => e = .returned v ∧ ∃ m, w'' = w.drewN m :=
  h.mono fun _ _ ⟨he, hm⟩ => ⟨he, n, hm.symm⟩
theorem quiet_eq0 {P : Program} {f : FuncId} {args : Array Value} {w : World} {v : Value}
    (h : Calls P f args w fun e w' => e = .returned v ∧ w = w') : Calls P f args w fun e w'' => e = .returned v ∧ ∃ m, w'' = w.drewN m :=
  h.mono fun _ _ ⟨he, hm⟩ => ⟨he, 0, hm.symm⟩

theorem take_snoc (s : ByteArray) (k : Nat) (h : k < s.size) : s.data.toList.take (k + 1) = s.data.toList.take k ++ [s[k]] := by
  rw [List.take_succ_eq_append_getElem (by simpa using h)]; rfl
theorem take_all (s : ByteArray) : s.data.toList.take s.size = s.data.toList := by
  rw [List.take_of_length_le]; simp
theorem all_take_succ (f : UInt8 → Bool) (s : ByteArray) (k : Nat) (h : k < s.size) : (s.data.toList.take (k+1)).all f = ((s.data.toList.take k).all f && f s[k]) := by
  rw [take_snoc s k h]; simp
theorem all_of_take (f : UInt8 → Bool) (s : ByteArray) (k : Nat) (h : k < s.size) (h' : f s[k] = false) : s.data.toList.all f = false := by
  rw [List.all_eq_false]
  exact ⟨s[k], by simp [ByteArray.getElem_eq_getElem_data], by simp [h']⟩

theorem sortedB_take_succ (s : ByteArray) (k : Nat) (h : k + 1 < s.size) : sortedB (s.data.toList.take (k+2)) = (sortedB (s.data.toList.take (k+1)) && decide (s[k].toNat ≤ s[k+1].toNat)) := by
  rw [take_snoc s (k+1) h, take_snoc s k (by omega), List.append_assoc]
  exact sortedB_snoc _ _ _
theorem sortedB_step (s : ByteArray) (k : Nat) (h0 : 0 < k) (h : k < s.size) : sortedB (s.data.toList.take (k+1)) = (sortedB (s.data.toList.take k) && decide (s[k-1].toNat ≤ s[k].toNat)) := by
  obtain ⟨j, rfl⟩ : ∃ j, k = j + 1 := ⟨k - 1, by omega⟩
  exact sortedB_take_succ s j h
theorem sortedB_one (s : ByteArray) : sortedB (s.data.toList.take 1) = true := by
  cases s.data.toList <;> simp [sortedB]
/-- The world behind '[]byte(s)'. -/
theorem bytes_world (w : World) (s : ByteArray) (cap : Nat) (e : TypeId) : ∃ W0, W0 = (w.alloc (.cells (bytesRow s cap) e ((bytesRow s cap).size, (bytesRow s cap).size + 1))).drew ∧ Below w.heap.size w W0 ∧
    ∀ k, (h : k < s.size) → W0.cell? ⟨w.heap.size, k, none⟩ = some (.int .u8 s[k].toNat) :=
  ⟨_, rfl, ((Below.refl _ _).alloc (Nat.le_refl _) _).drew, fun k h => by
    show (w.alloc _).cell? _ = _
    rw [World.cell?_alloc_mark, bytesRow_at s cap k h]; rfl⟩

theorem l01Small_any (c : Int) (w : World) :
    Calls Tryz.prog 64 #[.int .u8 c] w fun e w' => e = .returned (.bool (smallI c)) ∧ w = w' := by
  by_cases h : 97 ≤ c <;> go_enter Tryz.func64, Tryz.ntmps64 <;> go_wp2 <;> go_ret <;> exact ⟨ret_bool (by simp [smallI] <;> omega), rfl⟩
theorem small_any (c : Int) (w : World) :
    Calls Tryz.prog 70 #[.int .u8 c] w fun e w' => e = .returned (.bool (smallI c)) ∧ w = w' := by
  by_cases h : 97 ≤ c <;> go_enter Tryz.func70, Tryz.ntmps70 <;> go_wp2 <;> go_ret <;> exact ⟨ret_bool (by simp [smallI] <;> omega), rfl⟩
theorem l01Digit_any (c : Int) (w : World) :
    Calls Tryz.prog 103 #[.int .u8 c] w fun e w' => e = .returned (.bool (digI c)) ∧ w = w' := by
  by_cases h : 48 ≤ c <;> go_enter Tryz.func103, Tryz.ntmps103 <;> go_wp2 <;> go_ret <;> exact ⟨ret_bool (by simp [digI] <;> omega), rfl⟩
theorem l00In_any (n l h : Int) (w : World) :
    Calls Tryz.prog 89 #[.int .i64 n, .int .i64 l, .int .i64 h] w fun e w' => e = .returned (.bool (inI n l h)) ∧ w = w' := by
  by_cases h : l ≤ n <;> go_enter Tryz.func89, Tryz.ntmps89 <;> go_wp2 <;> go_ret <;> exact ⟨ret_bool (by simp [inI] <;> omega), rfl⟩
theorem within_any (n l h : Int) (w : World) :
    Calls Tryz.prog 35 #[.int .i64 n, .int .i64 l, .int .i64 h] w fun e w' => e = .returned (.bool (inI n l h)) ∧ w = w' := by
  by_cases h : l ≤ n <;> go_enter Tryz.func35, Tryz.ntmps35 <;> go_wp2 <;> go_ret <;> exact ⟨ret_bool (by simp [inI] <;> omega), rfl⟩
theorem l03Tile_any (c : Int) (w : World) :
    Calls Tryz.prog 46 #[.int .u8 c] w fun e w' => e = .returned (.bool (tileI c)) ∧ w = w' := by
  by_cases h : c = 63
  · subst h
    go_enter Tryz.func46, Tryz.ntmps46
    go_wp2
    go_ret
    exact ⟨ret_bool (by simp [tileI]), rfl⟩
  · have h' : (c == 63) = false := by simpa using h
    go_enter Tryz.func46, Tryz.ntmps46
    go_wp2_with (go_at_call 64; refine (l01Small_any _ _).mono ?_; rintro e w' ⟨rfl, rfl⟩)
    go_ret
    exact ⟨ret_bool (by simp [tileI, h]), rfl⟩
theorem onlySmall_any (s : ByteArray) (w : World) (hs : s.size ≤ maxLen) :
    Calls Tryz.prog 51 #[.string s] w fun e w' => e = .returned (.bool (smallAll s.data.toList)) ∧ Below w.heap.size w w' := by
  unfold maxLen at hs
  have hcv := run_bytes_of_string (P := Tryz.prog) w 9 22 5 s Tryz.underlying9 Tryz.underlying22 Tryz.underlying5
  go_enter Tryz.func51, Tryz.ntmps51
  go_wp2
  obtain ⟨W0, hW, hb, hcell⟩ := bytes_world w s (grownCap w s.size 0 5) 5
  rw [← hW]
  clear hW hcv
  generalize grownCap w s.size 0 5 = cap
  go_loop [8] (fun i => ∃ k : Nat, k ≤ s.size ∧ i = .int .i64 k ∧ smallAll (s.data.toList.take k) = true) (fun i => s.size - (intOf i).toNat)
  case atStart => exact ⟨0, Nat.zero_le _, rfl, rfl⟩
  case round =>
    obtain ⟨k, hk, rfl, hall⟩ := hrel
    have Hall := Lib.hid hall; clear hall
    by_cases hlt : k < s.size
    · have hc := hcell k hlt
      clear hcell
      cases hsm : smallI s[k].toNat
      · go_wp2_with (go_at_call 70; refine (small_any _ _).mono ?_; rintro e w' ⟨rfl, rfl⟩)
        go_ret
        exact ⟨ret_bool (by rw [smallAll, all_of_take _ s k hlt hsm]), hb⟩
      · go_wp2_with (go_at_call 70; refine (small_any _ _).mono ?_; rintro e w' ⟨rfl, rfl⟩)
        go_round
        case rel => exact ⟨k + 1, by omega, by go_num, by unfold smallAll; rw [all_take_succ _ s k hlt]; show (smallAll _ && _) = true; rw [Hall.out, hsm]; rfl⟩
        case measure => simp [intOf]; omega
    · go_wp2
      go_ret
      obtain rfl : k = s.size := by omega
      have h := Hall.out
      rw [take_all] at h
      exact ⟨ret_bool h.symm, hb⟩
theorem l03Pile_any (s : ByteArray) (w : World) (hs : s.size ≤ maxLen) :
    Calls Tryz.prog 26 #[.string s] w fun e w' => e = .returned (.bool (isPile s)) ∧ ∃ m, w' = w.drewN m := by
  unfold maxLen at hs
  go_enter Tryz.func26, Tryz.ntmps26
  go_wp2
  go_loopw [3] (fun i wr => ∃ k m : Nat, k ≤ s.size ∧ i = .int .i64 k ∧ tileAll (s.data.toList.take k) = true ∧ sortedB (s.data.toList.take k) = true ∧ wr = w.drewN m) (fun i _ => s.size - (intOf i).toNat)
  case atStart => exact ⟨0, 0, Nat.zero_le _, rfl, rfl, rfl, rfl⟩
  case round =>
    obtain ⟨k, m, hk, rfl, hall, hso, hwr⟩ := hrel
    have Hwr : Hid (∀ n, wr.drewN n = w.drewN (m + n)) := Lib.hid (by intro n; rw [hwr, World.drewN_drewN])
    have Hwr0 := Lib.hid hwr; clear hwr
    have Hall := Lib.hid hall; clear hall
    have Hso := Lib.hid hso; clear hso
    by_cases hlt : k < s.size
    · cases hsm : tileI s[k].toNat
      · go_wp2
        go_quiet ((go_at_call 46; exact quiet_eq (l03Tile_any _ _)))
        go_wp2
        go_ret
        exact ⟨ret_bool (by rw [isPile, tileAll, all_of_take _ s k hlt hsm]; rfl), _, Hwr.out _⟩
      · by_cases h0 : k = 0
        · subst h0
          go_wp2
          go_quiet ((go_at_call 46; exact quiet_eq (l03Tile_any _ _)))
          go_wp2
          go_roundw
          case rel => exact ⟨1, m + nq, by omega, by go_num, by unfold tileAll; rw [all_take_succ _ s 0 hlt]; simpa using hsm, sortedB_one s, Hwr.out _⟩
          case measure => simp [intOf]; omega
        · have hk0 : 0 < k := by omega
          have hk1 : (0 : Int) < (k : Int) := by omega
          clear h0
          have hk2 : (1 : Int) ≤ (k : Int) := by omega
          have hk3 : (k : Int) - 1 < (s.size : Int) := by omega
          by_cases hle : s[k-1].toNat ≤ s[k].toNat
          · have hd : decide ((s[k].toNat : Int) < (s[k-1].toNat : Int)) = false := by simp; omega
            have hwp : IntKind.i64.wrap ((k : Int) - 1) = (k : Int) - 1 := IntWalk.i64_in _ (by omega)
            go_wp2
            go_quiet ((go_at_call 46; exact quiet_eq (l03Tile_any _ _)))
            clear hwp
            go_wp2
            go_roundw
            case rel => exact ⟨k + 1, m + nq, by omega, by go_num, by unfold tileAll; rw [all_take_succ _ s k hlt]; show (tileAll _ && _) = true; rw [Hall.out, hsm]; rfl, by rw [sortedB_step s k hk0 hlt, Hso.out]; simp [hle], Hwr.out _⟩
            case measure => simp [intOf]; omega
          · have hd : decide ((s[k].toNat : Int) < (s[k-1].toNat : Int)) = true := by simp; omega
            have hwp : IntKind.i64.wrap ((k : Int) - 1) = (k : Int) - 1 := IntWalk.i64_in _ (by omega)
            go_wp2
            go_quiet ((go_at_call 46; exact quiet_eq (l03Tile_any _ _)))
            clear hwp
            go_wp2
            go_ret
            exact ⟨ret_bool (by rw [isPile, sortedB_of_take s.size _ (k + 1) (by simp) (by rw [sortedB_step s k hk0 hlt]; simp [hle])]; simp), _, Hwr.out _⟩
    · go_wp2
      go_ret
      obtain rfl : k = s.size := by omega
      have h1 := Hall.out
      have h2 := Hso.out
      rw [take_all] at h1 h2
      exact ⟨ret_bool (by rw [isPile, h1, h2]; simp; omega), m, Hwr0.out⟩

theorem specValidPile_any (s : ByteArray) (w : World) (hs : s.size ≤ maxLen) :
    Calls Tryz.prog 11 #[.string s] w fun e w' => e = .returned (.bool (isPile s)) ∧ ∃ m, w' = w.drewN m := by
  have hs' := Lib.hid hs
  clear hs
  go_enter Tryz.func11, Tryz.ntmps11
  go_wp2_with fail
  refine (l03Pile_any _ _ hs'.out).mono ?_
  rintro e w' ⟨rfl, hw⟩
  go_wp2
  go_ret
  exact ⟨rfl, hw⟩
theorem toList_size (s : ByteArray) : s.toList.length = s.size := by rw [ByteArray.toList_eq]; simp
theorem isEmpty_false {s : ByteArray} (h : 0 < s.size) : s.toList.isEmpty = false := by
  have := toList_size s
  cases hl : s.toList with
  | nil => rw [hl] at this; simp at this; omega
  | cons a l => rfl
theorem isEmpty_true {s : ByteArray} (h : s.size = 0) : s.toList.isEmpty = true := by
  have := toList_size s
  cases hl : s.toList with
  | nil => rfl
  | cons a l => rw [hl] at this; simp at this; omega
theorem size_zero {s : ByteArray} (h : s.size = 0) : s = ByteArray.empty := by
  apply ByteArray.ext
  exact Array.eq_empty_of_size_eq_zero h
theorem headD_eq {s : ByteArray} (h : 0 < s.size) : s.data.toList.headD 0 = s[0] := by
  have hl : 0 < s.data.toList.length := by simpa using h
  rw [List.headD_eq_head?_getD, List.head?_eq_getElem?, List.getElem?_eq_getElem hl]; rfl

theorem isName_no {s : ByteArray} (h : s.size = 0 ∨ 12 < s.size) : isName s = false := by
  simp [isName, inI]; omega
theorem isName_first {s : ByteArray} (h : 0 < s.size) (h1 : smallI s[0].toNat = false) : isName s = false := by
  rw [isName, headD_eq h, h1]; simp
theorem isName_yes {s : ByteArray} (h : 0 < s.size) (h2 : s.size ≤ 12) (h1 : smallI s[0].toNat = true) (h3 : nameAll s.data.toList = true) : isName s = true := by
  rw [isName, headD_eq h, h1, h3]; simp [inI]; omega
theorem nameI_true {c : Int} (h : nameI c = true) : smallI c = true ∨ (smallI c = false ∧ digI c = true) ∨ (smallI c = false ∧ digI c = false ∧ c = 45) := by
  unfold nameI at h
  cases h1 : smallI c <;> cases h2 : digI c <;> simp_all
theorem nameI_false {c : Int} (h : nameI c = false) : smallI c = false ∧ digI c = false ∧ c ≠ 45 := by
  unfold nameI at h
  cases h1 : smallI c <;> cases h2 : digI c <;> simp_all
theorem below_draws {w w' : World} (h : ∃ m, w' = w.drewN m) : Below w.heap.size w w' := by
  obtain ⟨m, rfl⟩ := h; exact below_drewN (Below.refl _ _) _
theorem below_eq {w w' : World} (h : w = w') : Below w.heap.size w w' := by subst h; exact Below.refl _ _
theorem svp_any (s : ByteArray) (w : World) (hs : s.size ≤ maxLen) :
    Calls Tryz.prog 26 #[.string s] w fun e w' => e = .returned (.bool (isPile s)) ∧ Below w.heap.size w w' :=
  (l03Pile_any s w hs).mono fun _ _ ⟨h1, h2⟩ => ⟨h1, below_draws h2⟩
end Go.Proofs.YtinmmbnlflmobaaGreatDoor
