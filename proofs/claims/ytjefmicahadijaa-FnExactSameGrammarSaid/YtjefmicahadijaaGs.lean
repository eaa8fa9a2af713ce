/- SameGrammar of both sides. No condition but the readings. -/
import Derived.Test.YtjefmicahadijaaGv
import Derived.Laws.StructEq
namespace Go.Proofs.Ytjefmicahadijaa
open Go.RowKit
theorem stood : Try.prog.stoodInHeld 37 = false := by kernel_rfl
theorem flds : Try.prog.underlying 37 = some (.struct (Try.prog.fieldsOf 37)) := by kernel_rfl
theorem isAgg_str (w : World) : (isAgg 9).run Try.prog w = .ok false w := by kernel_rfl
theorem isAgg_bool (w : World) : (isAgg 4).run Try.prog w = .ok false w := by kernel_rfl
theorem part_str (xs : Array Value) (i : Nat) (v : Value) (w : World) (h : xs[i]? = some v) : (part 9 xs i).run Try.prog w = .ok v w := by
  unfold part
  rw [Sem.run_bind, isAgg_str]
  simp [h]
theorem part_bool (xs : Array Value) (i : Nat) (v : Value) (w : World) (h : xs[i]? = some v) : (part 4 xs i).run Try.prog w = .ok v w := by
  unfold part
  rw [Sem.run_bind, isAgg_bool]
  simp [h]
theorem eqf_str (d : Nat) (xs ys : Array Value) (f : Field) (fs : List Field) (a b : ByteArray) (w : World) (hn : f.name ≠ "_") (ht : f.type = 9) (hx : xs[f.offset]? = some (.string a)) (hy : ys[f.offset]? = some (.string b)) :
    (Op.eqFields (d + 1) xs ys (f :: fs)).run Try.prog w = if a = b then (Op.eqFields (d + 1) xs ys fs).run Try.prog w else .ok false w := by
  rw [Op.eqFields]
  rw [if_pos hn, ht, Sem.run_bind, part_str _ _ _ _ hx, Result.andThen_ok, Sem.run_bind, part_str _ _ _ _ hy, Result.andThen_ok, Sem.run_bind, run_equalIn_string w d 9 a b Try.underlying9, Result.andThen_ok]
  by_cases h : a = b
  · subst h; simp
  · rw [if_neg h]
    have : (a.toList == b.toList) = false := by
      rw [beq_eq_false_iff_ne, Lib.toList_data, Lib.toList_data]; intro e; apply h; apply ByteArray.ext; exact Array.toList_inj.1 e
    rw [this]; simp
theorem eqf_bool (d : Nat) (xs ys : Array Value) (f : Field) (fs : List Field) (a b : Bool) (w : World) (hn : f.name ≠ "_") (ht : f.type = 4) (hx : xs[f.offset]? = some (.bool a)) (hy : ys[f.offset]? = some (.bool b)) :
    (Op.eqFields (d + 1) xs ys (f :: fs)).run Try.prog w = if a = b then (Op.eqFields (d + 1) xs ys fs).run Try.prog w else .ok false w := by
  rw [Op.eqFields]
  rw [if_pos hn, ht, Sem.run_bind, part_bool _ _ _ _ hx, Result.andThen_ok, Sem.run_bind, part_bool _ _ _ _ hy, Result.andThen_ok, Sem.run_bind, run_equalIn_bool w d 4 a b Try.underlying4, Result.andThen_ok]
  by_cases h : a = b
  · subst h; simp
  · rw [if_neg h]
    have : (a == b) = false := by simpa using h
    rw [this]; simp
theorem neq_aff (x y : AffD) (w : World) : (binOp .neq 37 (.agg #[.string x.name, .bool x.front, .string x.cond, .string x.strip, .string x.add]) (.agg #[.string y.name, .bool y.front, .string y.cond, .string y.strip, .string y.add])).run Try.prog w = .ok (.bool (!decide (x = y))) w := by
  rw [run_neq_struct, run_equalIn_agg (P := Try.prog) w 9999 _ _ _ flds stood]
  unfold Program.fieldsOf
  rw [Try.underlying37]
  rw [eqf_str 9998 _ _ _ _ x.name y.name _ (by decide) rfl rfl rfl, eqf_bool 9998 _ _ _ _ x.front y.front _ (by decide) rfl rfl rfl, eqf_str 9998 _ _ _ _ x.cond y.cond _ (by decide) rfl rfl rfl, eqf_str 9998 _ _ _ _ x.strip y.strip _ (by decide) rfl rfl rfl, eqf_str 9998 _ _ _ _ x.add y.add _ (by decide) rfl rfl rfl]
  by_cases h : x = y
  · subst h; simp [Op.eqFields]
  · rw [decide_eq_false h]
    by_cases h0 : x.name = y.name
    · rw [if_pos h0]
      by_cases h1 : x.front = y.front
      · rw [if_pos h1]
        by_cases h2 : x.cond = y.cond
        · rw [if_pos h2]
          by_cases h3 : x.strip = y.strip
          · rw [if_pos h3]
            by_cases h4 : x.add = y.add
            · exact absurd (by cases x; cases y; simp_all) h
            · rw [if_neg h4]; rfl
          · rw [if_neg h3]; rfl
        · rw [if_neg h2]; rfl
      · rw [if_neg h1]; rfl
    · rw [if_neg h0]; rfl
set_option maxHeartbeats 4000000 in
set_option maxRecDepth 20000 in
theorem equalAffix_any (a b : Value) (l1 l2 : List AffD) (w : World) (ha : Affs w a l1) (hb : Affs w b l2) :
    Calls Try.prog 14 #[a, b] w fun e w' => e = .returned (.bool (decide (l1 = l2))) ∧ Below w.heap.size w w' := by
  obtain ⟨a1, c1, rfl, h1, h1', h1c⟩ := ha.shape
  obtain ⟨a2, c2, rfl, h2, h2', h2c⟩ := hb.shape
  clear ha hb
  unfold maxLen at h1' h2'
  by_cases hlen : l1.length = l2.length
  · have Hlen := Lib.hid hlen
    have hl0 : ((l1.length : Int) != (l2.length : Int)) = false := by rw [bne_eq_false_iff_eq]; omega
    clear hlen
    go_enter Try.func14, Try.ntmps14
    go_wp2
    go_loopw [13] (fun i wr => ∃ k : Nat, k ≤ l1.length ∧ i = .int .i64 k ∧ Hid (l1.take k = l2.take k) ∧ Hid (Below w.heap.size w wr)) (fun i _ => l1.length - (intOf i).toNat)
    case atStart => exact ⟨0, Nat.zero_le _, rfl, Lib.hid rfl, Lib.hid (Below.refl _ _)⟩
    case round =>
      obtain ⟨k, hk, rfl, Heq, HB⟩ := hrel
      by_cases hlt : k < l1.length
      · have hlt2 : k < l2.length := by have := Hlen.out; omega
        obtain ⟨b1, o1, rfl, k0, k1, k2, k3, k4, -⟩ := h1c k hlt
        obtain ⟨b2, o2, rfl, k5, k6, k7, k8, k9, -⟩ := h2c k hlt2
        have f0 := cell_below HB.out k0
        have f1 := cell_below HB.out k1
        have f2 := cell_below HB.out k2
        have f3 := cell_below HB.out k3
        have f4 := cell_below HB.out k4
        have f5 := cell_below HB.out k5
        have f6 := cell_below HB.out k6
        have f7 := cell_below HB.out k7
        have f8 := cell_below HB.out k8
        have f9 := cell_below HB.out k9
        have hI0 : (0 : Int) ≤ (k : Int) := by omega
        have hI1 : (k : Int) < (l1.length : Int) := by omega
        have hI2 : (k : Int) < (l2.length : Int) := by omega
        clear k0 k1 k2 k3 k4 k5 k6 k7 k8 k9 h1c h2c
        obtain ⟨x, hx⟩ : ∃ x, x = l1[k] := ⟨_, rfl⟩
        obtain ⟨y, hy⟩ : ∃ y, y = l2[k] := ⟨_, rfl⟩
        rw [← hx] at f0 f1 f2 f3 f4
        rw [← hy] at f5 f6 f7 f8 f9
        have HX := Lib.hid hx
        have HY := Lib.hid hy
        clear hx hy
        have hneq := fun w => neq_aff x y w
        cases hd : decide (x = y)
        · have Hd := Lib.hid hd
          rw [hd, Bool.not_false] at hneq
          go_wp2_with fail
          go_quiet (fail)
          go_wp2
          go_ret
          refine ⟨ret_bool ?_, below_drewN HB.out _⟩
          rw [eq_comm, decide_eq_false_iff_not]
          rintro rfl
          have h1 := HX.out
          have h2 := HY.out
          rw [h1, h2] at Hd
          have := Hd.out
          simp at this
        · have Hd := Lib.hid (of_decide_eq_true hd)
          rw [hd, Bool.not_true] at hneq
          go_wp2_with fail
          go_quiet (fail)
          go_wp2
          go_roundw
          case rel => exact ⟨k + 1, by omega, by go_num, Lib.hid (take_eq_succ Heq.out hlt hlt2 (by rw [← HX.out, ← HY.out]; exact Hd.out)), Lib.hid (below_drewN HB.out _)⟩
          case measure => simp [intOf]; omega
      · go_wp2
        go_ret
        refine ⟨ret_bool ?_, HB.out⟩
        rw [eq_comm, decide_eq_true_iff]
        have h := Heq.out
        rwa [List.take_of_length_le (by omega), List.take_of_length_le (by have := Hlen.out; omega)] at h
  · have hl0 : ((l1.length : Int) != (l2.length : Int)) = true := by rw [bne_iff_ne]; omega
    have H := Lib.hid hlen
    clear hlen
    go_enter Try.func14, Try.ntmps14
    go_wp2
    go_ret
    exact ⟨ret_bool (by rw [eq_comm, decide_eq_false_iff_not]; rintro rfl; exact H.out rfl), Below.refl _ _⟩
end Go.Proofs.Ytjefmicahadijaa
