/- What the laws on tile sets call: l00Same, l02Same, SameTiles, of both sides. No condition but the readings. -/
import Derived.Test.YtinmmbnlflmobaaGreatDoorI
import Derived.Test.YtinmmbnlflmobaaGreatDoorW
import Derived.Test.YtinmmbnlflmobaaGreatDoorSh
namespace Go.Proofs.YtinmmbnlflmobaaGreatDoor
open Go.RowKit
theorem drewN_two (w : World) (a b : Nat) : (w.drewN a).drewN b = w.drewN (a + b) := World.drewN_drewN w a b
theorem quiet_drew {P : Program} {f : FuncId} {args : Array Value} {w : World} {n : Nat} {v : Value}
    (h : Calls P f args (w.drewN n) fun e w' => e = .returned v ∧ ∃ q, w' = (w.drewN n).drewN q) : Calls P f args (w.drewN n) fun e w'' => e = .returned v ∧ ∃ m, w'' = w.drewN m :=
  h.mono fun _ _ ⟨he, q, hm⟩ => ⟨he, n + q, by rw [hm, drewN_two]⟩
set_option maxHeartbeats 400000 in
theorem l00Same_any (a b : Value) (l1 l2 : List Int) (w : World) (ha : Ints w a l1) (hb : Ints w b l2) :
    Calls Tryz.prog 45 #[a, b] w fun e w' => e = .returned (.bool (decide (l1 = l2))) ∧ ∃ q, w' = w.drewN q := by
  obtain ⟨a1, c1, rfl, h1, h1', h1c⟩ := ha.shape
  obtain ⟨a2, c2, rfl, h2, h2', h2c⟩ := hb.shape
  clear ha hb
  unfold maxLen at h1' h2'
  by_cases hlen : l1.length = l2.length
  · have Hlen := Lib.hid hlen
    have hl0 : ((l1.length : Int) != (l2.length : Int)) = false := by rw [bne_eq_false_iff_eq]; omega
    clear hlen
    go_enter Tryz.func45, Tryz.ntmps45
    go_wp2
    go_loopw [5] (fun i wr => ∃ k : Nat, k ≤ l1.length ∧ i = .int .i64 k ∧ l1.take k = l2.take k ∧ ∃ q, wr = w.drewN q) (fun i _ => l1.length - (intOf i).toNat)
    case atStart => exact ⟨0, Nat.zero_le _, rfl, rfl, 0, rfl⟩
    case round =>
      obtain ⟨k, hk, rfl, heq, q, hw⟩ := hrel
      have hbl : Below w.heap.size w wr := by rw [hw]; exact below_drewN (Below.refl _ _) _
      have Hw := Lib.hid hw
      clear hw
      have Heq := Lib.hid heq; clear heq
      by_cases hlt : k < l1.length
      · obtain ⟨b1, o1, rfl, hc1, hs1⟩ := h1c k hlt
        obtain ⟨b2, o2, rfl, hc2, hs2⟩ := h2c k (by have := Hlen.out; omega)
        have hw1 : wr.cell? ⟨b1, o1 + k, none⟩ = some (.int .i64 l1[k]) := (hbl.cell (cell_lt hc1)).trans hc1
        have hw2 : wr.cell? ⟨b2, o2 + k, none⟩ = some (.int .i64 (l2[k]'(by have := Hlen.out; omega))) := (hbl.cell (cell_lt hc2)).trans hc2
        have hlt2 : k < l2.length := by have := Hlen.out; omega
        clear hc1 hc2 h1c h2c hs1 hs2
        cases hd : (l1[k] == l2[k])
        · go_wp2
          go_quiet (fail)
          go_wp2
          go_ret
          exact ⟨ret_bool (by rw [eq_comm, decide_eq_false_iff_not]; rintro rfl; simp at hd), q + nq, by rw [Hw.out, drewN_two]⟩
        · go_wp2
          go_quiet (fail)
          go_wp2
          go_roundw
          case rel => exact ⟨k + 1, by omega, by go_num, take_eq_succ Heq.out hlt hlt2 (by simpa using hd), q + nq, by rw [Hw.out, drewN_two]⟩
          case measure => simp [intOf]; omega
      · go_wp2
        go_ret
        refine ⟨ret_bool ?_, q, Hw.out⟩
        rw [eq_comm, decide_eq_true_iff]
        have h := Heq.out
        rwa [List.take_of_length_le (by omega), List.take_of_length_le (by have := Hlen.out; omega)] at h
  · have hl0 : ((l1.length : Int) != (l2.length : Int)) = true := by rw [bne_iff_ne]; omega
    have H := Lib.hid hlen
    clear hlen
    go_enter Tryz.func45, Tryz.ntmps45
    go_wp2
    go_ret
    exact ⟨ret_bool (by rw [eq_comm, decide_eq_false_iff_not]; rintro rfl; exact H.out rfl), 0, rfl⟩

theorem tileD_eq (x y : TileD) : decide (x = y) = (decide (x.letters = y.letters) && decide (x.values = y.values) && decide (x.counts = y.counts) && decide (x.blanks = y.blanks)) := by
  cases x; cases y; simp [Bool.and_assoc]
set_option maxHeartbeats 2000000 in
theorem l02Same_any (g g' : Nat) (s1 s2 t1 t2 : Value) (x y : TileD) (w : World) (c0 : w.cell? ⟨g, 0, none⟩ = some (.string x.letters)) (c1 : w.cell? ⟨g, 1, none⟩ = some s1) (c2 : w.cell? ⟨g, 2, none⟩ = some s2) (c3 : w.cell? ⟨g, 3, none⟩ = some (.int .i64 x.blanks))
    (d0 : w.cell? ⟨g', 0, none⟩ = some (.string y.letters)) (d1 : w.cell? ⟨g', 1, none⟩ = some t1) (d2 : w.cell? ⟨g', 2, none⟩ = some t2) (d3 : w.cell? ⟨g', 3, none⟩ = some (.int .i64 y.blanks))
    (h1 : Ints w s1 x.values) (h2 : Ints w s2 x.counts) (g1 : Ints w t1 y.values) (g2 : Ints w t2 y.counts) :
    Calls Tryz.prog 25 #[.pointer (some ⟨g, 0, none⟩), .pointer (some ⟨g', 0, none⟩)] w fun e w' => e = .returned (.bool (decide (x = y))) ∧ ∃ q, w' = w.drewN q := by
  have Hr : Hid ((∀ n, Ints (w.drewN n) s1 x.values) ∧ (∀ n, Ints (w.drewN n) s2 x.counts) ∧ (∀ n, Ints (w.drewN n) t1 y.values) ∧ (∀ n, Ints (w.drewN n) t2 y.counts)) :=
    Lib.hid ⟨fun n => h1.below (below_drewN (Below.refl _ _) n), fun n => h2.below (below_drewN (Below.refl _ _) n), fun n => g1.below (below_drewN (Below.refl _ _) n), fun n => g2.below (below_drewN (Below.refl _ _) n)⟩
  have Eqx := Lib.hid (tileD_eq x y)
  clear h1 h2 g1 g2
  cases hA : (x.letters.toList == y.letters.toList)
  · have HA := Lib.hid hA
    go_enter Tryz.func25, Tryz.ntmps25
    go_wp2
    go_quiet ((first | (go_at_call 45; exact quiet_drew (l00Same_any _ _ x.values y.values _ (Hr.out.1 _) (Hr.out.2.2.1 _))) | (go_at_call 45; exact quiet_drew (l00Same_any _ _ x.counts y.counts _ (Hr.out.2.1 _) (Hr.out.2.2.2 _)))))
    go_wp2
    go_ret
    exact ⟨ret_bool (by rw [Eqx.out, decide_eq_false (bytes_ne_of HA.out)]; rfl), nq, rfl⟩
  · have HA := Lib.hid hA
    cases hB : decide (x.values = y.values)
    · have HB := Lib.hid hB
      go_enter Tryz.func25, Tryz.ntmps25
      go_wp2
      go_quiet ((first | (go_at_call 45; exact quiet_drew (l00Same_any _ _ x.values y.values _ (Hr.out.1 _) (Hr.out.2.2.1 _))) | (go_at_call 45; exact quiet_drew (l00Same_any _ _ x.counts y.counts _ (Hr.out.2.1 _) (Hr.out.2.2.2 _)))))
      go_wp2
      go_ret
      exact ⟨ret_bool (by rw [Eqx.out, HB.out]; simp), nq, rfl⟩
    · have HB := Lib.hid hB
      cases hC : decide (x.counts = y.counts)
      · have HC := Lib.hid hC
        go_enter Tryz.func25, Tryz.ntmps25
        go_wp2
        go_quiet ((first | (go_at_call 45; exact quiet_drew (l00Same_any _ _ x.values y.values _ (Hr.out.1 _) (Hr.out.2.2.1 _))) | (go_at_call 45; exact quiet_drew (l00Same_any _ _ x.counts y.counts _ (Hr.out.2.1 _) (Hr.out.2.2.2 _)))))
        go_wp2
        go_ret
        exact ⟨ret_bool (by rw [Eqx.out, HC.out]; simp), nq, rfl⟩
      · have HC := Lib.hid hC
        cases hD : (x.blanks == y.blanks)
        · have HD := Lib.hid hD
          go_enter Tryz.func25, Tryz.ntmps25
          go_wp2
          go_quiet ((first | (go_at_call 45; exact quiet_drew (l00Same_any _ _ x.values y.values _ (Hr.out.1 _) (Hr.out.2.2.1 _))) | (go_at_call 45; exact quiet_drew (l00Same_any _ _ x.counts y.counts _ (Hr.out.2.1 _) (Hr.out.2.2.2 _)))))
          go_wp2
          go_ret
          exact ⟨ret_bool (by rw [Eqx.out, decide_eq_false (show ¬ x.blanks = y.blanks by simpa using HD.out), Bool.and_false]), nq, rfl⟩
        · have HD := Lib.hid hD
          go_enter Tryz.func25, Tryz.ntmps25
          go_wp2
          go_quiet ((first | (go_at_call 45; exact quiet_drew (l00Same_any _ _ x.values y.values _ (Hr.out.1 _) (Hr.out.2.2.1 _))) | (go_at_call 45; exact quiet_drew (l00Same_any _ _ x.counts y.counts _ (Hr.out.2.1 _) (Hr.out.2.2.2 _)))))
          go_wp2
          go_ret
          exact ⟨ret_bool (by rw [Eqx.out, HB.out, HC.out, decide_eq_true (bytes_eq_of HA.out), decide_eq_true (show x.blanks = y.blanks by simpa using HD.out)]; rfl), nq, rfl⟩
set_option maxHeartbeats 2000000 in
theorem specSameTiles_any (a : Value) (x : TileD) (b : Value) (y : TileD) (w : World) (ha : TilR w a x) (hb : TilR w b y) :
    Calls Tryz.prog 10 #[a, b] w fun e w' => e = .returned (.bool (decide (x = y))) ∧ Below w.heap.size w w' := by
  obtain ⟨s1, s2, rfl, hls, h1, h2, hbl⟩ := ha
  obtain ⟨t1, t2, rfl, hlt, g1, g2, hbl2⟩ := hb
  have hb0 : Below w.heap.size w ((w.alloc (.cells #[.string x.letters, s1, s2, .int .i64 x.blanks] 26)).alloc (.cells #[.string y.letters, t1, t2, .int .i64 y.blanks] 26)) :=
    ((Below.refl _ _).alloc (Nat.le_refl _) _).alloc (by simp) _
  clear hls hlt hbl hbl2
  have c0 := cell_alloc (.cells #[.string y.letters, t1, t2, .int .i64 y.blanks] 26) (cell_newi w #[.string x.letters, s1, s2, .int .i64 x.blanks] 26 0 (.string x.letters) rfl)
  have c1 := cell_alloc (.cells #[.string y.letters, t1, t2, .int .i64 y.blanks] 26) (cell_newi w #[.string x.letters, s1, s2, .int .i64 x.blanks] 26 1 s1 rfl)
  have c2 := cell_alloc (.cells #[.string y.letters, t1, t2, .int .i64 y.blanks] 26) (cell_newi w #[.string x.letters, s1, s2, .int .i64 x.blanks] 26 2 s2 rfl)
  have c3 := cell_alloc (.cells #[.string y.letters, t1, t2, .int .i64 y.blanks] 26) (cell_newi w #[.string x.letters, s1, s2, .int .i64 x.blanks] 26 3 (.int .i64 x.blanks) rfl)
  have d0 := cell_newi (w.alloc (.cells #[.string x.letters, s1, s2, .int .i64 x.blanks] 26)) #[.string y.letters, t1, t2, .int .i64 y.blanks] 26 0 (.string y.letters) rfl
  have d1 := cell_newi (w.alloc (.cells #[.string x.letters, s1, s2, .int .i64 x.blanks] 26)) #[.string y.letters, t1, t2, .int .i64 y.blanks] 26 1 t1 rfl
  have d2 := cell_newi (w.alloc (.cells #[.string x.letters, s1, s2, .int .i64 x.blanks] 26)) #[.string y.letters, t1, t2, .int .i64 y.blanks] 26 2 t2 rfl
  have d3 := cell_newi (w.alloc (.cells #[.string x.letters, s1, s2, .int .i64 x.blanks] 26)) #[.string y.letters, t1, t2, .int .i64 y.blanks] 26 3 (.int .i64 y.blanks) rfl
  rw [World.size_alloc] at d0 d1 d2 d3
  have Hr := Lib.hid (And.intro (h1.below hb0) (And.intro (h2.below hb0) (And.intro (g1.below hb0) (g2.below hb0))))
  go_enter Tryz.func10, Tryz.ntmps10
  go_wp2_with fail
  refine (l02Same_any w.heap.size (w.heap.size + 1) s1 s2 t1 t2 x y _ c0 c1 c2 c3 d0 d1 d2 d3 Hr.out.1 Hr.out.2.1 Hr.out.2.2.1 Hr.out.2.2.2).mono ?_
  rintro e w1 ⟨rfl, q, rfl⟩
  go_wp2
  go_ret
  exact ⟨rfl, below_drewN hb0 _⟩
end Go.Proofs.YtinmmbnlflmobaaGreatDoor
