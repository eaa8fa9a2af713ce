/- FnRacks: the drawn piles. Condition: at most 3000 bytes. -/
import Derived.Test.YthpjinfkagllfaaRkL
import Derived.Test.YthpjinfkagllfaaDr
namespace Go.Proofs.Ythpjinfkagllfaa
open Go.RowKit
attribute [local irreducible] Calls
set_option maxHeartbeats 2000000 in
set_option maxRecDepth 20000 in
theorem l03Draw_any (g : Nat) (bs : List UInt8) (k : Nat) (n : Nat) (z : Int) (w : World) (hs : SrcW w g bs k) (hk : k ≤ 100000) (hz : z = (n : Int)) (hn : n ≤ 20) :
    Calls Try.prog 48 #[.pointer (some ⟨g, 0, none⟩), .int .i64 z] w fun e w' => ∃ (s : ByteArray) (k' : Nat), e = .returned (.string s) ∧ isPile s = true ∧ s.size ≤ n ∧ k' ≤ k + 2 * n + 2 ∧ SrcW w' g bs k' ∧ Kept g (g + 1) w w' := by
  subst hz
  go_enter Try.func48, Try.ntmps48
  go_wp2_with fail
  refine (pick_any g bs k (n + 1) _ _ hs (by omega) (by omega) (by omega)).mono ?_
  rintro e w1 ⟨r, k1, rfl, hr, hk1, hs1, hkk1⟩
  have hrn : r ≤ n := by omega
  have HS := Lib.hid hs1
  have HK := Lib.hid hkk1
  clear hs hs1 hkk1 hr
  go_wp2
  go_loopw [5, 6] (fun out i wr => ∃ (m k2 : Nat) (o : ByteArray), m ≤ r ∧ i = .int .i64 (m : Int) ∧ out = .string o ∧ o.size + m = r ∧ Hid (tileAll o.data.toList = true) ∧ k2 + 2 * m ≤ k + 2 + 2 * r ∧ Hid (SrcW wr g bs k2) ∧ Hid (Kept g (g + 1) w wr)) (fun _ i _ => (intOf i).toNat)
  case atStart => exact ⟨r, k1, _, Nat.le_refl _, rfl, rfl, by simp [ByteArray.size], Lib.hid rfl, by omega, HS, HK⟩
  case round =>
    obtain ⟨m, k2, o, hm, rfl, rfl, hsz, Ht, hk2, HSr, HKr⟩ := hrel
    by_cases hlt : 0 < m
    · have hltI : (0 : Int) < (m : Int) := by omega
      go_wp2_with fail
      refine (text_any g bs k2 _ [⟨#[97]⟩, ⟨#[101]⟩, ⟨#[101]⟩, ⟨#[110]⟩, ⟨#[114]⟩, ⟨#[115]⟩, ⟨#[116]⟩, ⟨#[98]⟩, ⟨#[63]⟩] _ (HSr.out.below ((Below.refl _ _).alloc (Nat.le_refl _) _)) (by omega) (strs_built wr _ (by decide)) (by decide) (by decide) (fun a n c e p hp => ?_)).mono ?_
      · cases e; cases hp; have := HSr.out.lt; show wr.heap.size ≠ g; omega
      rintro e w2 ⟨t, k3, rfl, htm, hk3, hs3, hkk3⟩
      have ht1 : t.size = 1 ∧ tileAll t.data.toList = true := by
        simp only [List.mem_cons, List.not_mem_nil, or_false] at htm
        rcases htm with rfl | rfl | rfl | rfl | rfl | rfl | rfl | rfl | rfl <;> exact ⟨rfl, by decide⟩
      obtain ⟨ht1, ht2⟩ := ht1
      have hsum : (9223372036854775807 < o.size + 1) = False := eq_false (by omega)
      have Ht2 := Lib.hid ht2
      have HS3 := Lib.hid hs3
      have HK3 := Lib.hid ((HKr.out.trans (Kept.of_below (lo := g) (hi := g + 1) ((Below.refl _ _).alloc (Nat.le_refl _) _))).trans hkk3)
      clear hs3 hkk3 htm ht2
      go_wp2
      go_roundw
      case rel => exact ⟨m - 1, k3, o ++ t, by omega, by go_num, rfl, by simp [ht1]; omega, Lib.hid (by rw [ba_data_append, tileAll_append, Ht.out, Ht2.out]; rfl), by omega, HS3, HK3⟩
      case measure => simp [intOf]; omega
    · obtain rfl : m = 0 := by omega
      go_wp2_with fail
      refine (l03Sort_any o _ (by omega) Ht.out).mono ?_
      rintro e w2 ⟨rfl, hb2⟩
      have HS3 := Lib.hid (HSr.out.below hb2)
      have HK3 := Lib.hid (HKr.out.trans (Kept.of_below (lo := g) (hi := g + 1) hb2))
      clear hb2
      go_wp2
      go_ret
      have hp := pileOf_perm Ht.out
      have hl : (pileOf (cntOf o.data.toList)).length = o.size := by rw [hp.length_eq, data_len]
      exact ⟨_, k2, rfl, isPile_of (pileOf_tiles _) (pileOf_rises _) (by omega), by show (pileOf (cntOf o.data.toList)).toArray.size ≤ n; simp; omega, by omega, HS3.out, HK3.out⟩
end Go.Proofs.Ythpjinfkagllfaa
