/- FnRacks: the two piles that are drawn. No condition but the reading. -/
import Derived.Test.YtenfdjnmkmeaiaaRkW
import Derived.Test.YtenfdjnmkmeaiaaBy
namespace Go.Proofs.Ytenfdjnmkmeaiaa
open Go.RowKit
attribute [local irreducible] Calls
set_option maxHeartbeats 1000000 in
theorem a2Piles_any (v : Value) (bs : List UInt8) (w : World) (hv : BytesR w v bs) (hl : bs.length ≤ 3000) :
    Calls Try.prog 29 #[v] w fun e w' => ∃ a b : ByteArray, e = .returned (.tuple #[.string a, .string b]) ∧ isPile a = true ∧ isPile b = true ∧ a.size ≤ 9 ∧ b.size ≤ 5 ∧ Below w.heap.size w w' := by
  obtain ⟨pa, pc, rfl, -, -⟩ := hv.shape
  go_enter Try.func29, Try.ntmps29
  go_wp2_with fail
  refine (l00From_any _ bs w hv hl).mono ?_
  rintro e w1 ⟨rfl, hs1, hb1⟩
  go_wp2_with fail
  refine (l03Draw_any _ bs 0 9 _ _ hs1 (by omega) rfl (by omega)).mono ?_
  rintro e w2 ⟨a, k2, rfl, ha, hal, hk2, hs2, hkk2⟩
  have hb2 := hb1.trans (hkk2.below (Nat.le_refl _) hb1.size)
  clear hb1 hs1 hkk2
  go_wp2_with fail
  refine (l03Draw_any _ bs k2 5 _ _ hs2 (by omega) rfl (by omega)).mono ?_
  rintro e w3 ⟨b, k3, rfl, hb, hbl, hk3, hs3, hkk3⟩
  have hb3 := hb2.trans (hkk3.below (Nat.le_refl _) hb2.size)
  go_wp2
  go_ret2
  exact ⟨a, b, rfl, ha, hb, hal, hbl, hb3⟩
end Go.Proofs.Ytenfdjnmkmeaiaa
